/- The document's set: Del. (Printed by tools/gensr.py.) The document's sets: NewSet, Union, Both, Minus. (Printed by tools/gensn.py.) -/
import Derived.Test.YtlolnpilpdkbkaaPkA18

namespace Go.Proofs.Ytlolnpilpdkbkaa
open Go.RowKit Go.Maps
set_option linter.unusedSimpArgs false
set_option linter.unusedVariables false

def RDelP (w : World) (q : Nat) (ks : List (List Nat)) (x : List Nat) (e : Ending) (w' : World) : Prop :=
  e = .returned (.bool (decide (x ∈ ks))) ∧ (∃ A c, RSet w' q A c (delK x ks)) ∧ Upd (fun k => k = q) w w'
theorem delK_snoc (x y : List Nat) (l : List (List Nat)) : delK x (l ++ [y]) = if y = x then delK x l else delK x l ++ [y] := by
  unfold delK
  rw [List.filter_append]
  by_cases h : y = x
  · simp [h]
  · simp [h]
theorem delK_len (x : List Nat) (l : List (List Nat)) : (delK x l).length ≤ l.length := List.length_filter_le _ _
set_option maxRecDepth 100000 in
set_option maxHeartbeats 4000000 in
theorem rDel_any (w : World) (q c : Nat) (A : Option Addr) (ks : List (List Nat)) (h : RSet w q A c ks) (hr : Rise32 ks) (hL : ks.length ≤ 4194304) (x : List Nat) (hx : IsK x) :
    Calls Try.prog 48 #[.pointer (some ⟨q, 0, none⟩), .agg (u8s x).toArray] w (RDelP w q ks x) := by
  have hR0 := Lib.hid (RH.start h x)
  have hown := Lib.hid h.2
  have hi32 : Hid ((Try.prog.info? 25).map (·.size) = some 32) := Lib.hid (by kernel_rfl)
  have hxs : Hid ((u8s x).toArray.size = 32) := Lib.hid (by simp [u8s, hx.1])
  obtain ⟨w1, hw1⟩ : ∃ w1, w.alloc (.cells (u8s x).toArray 25) = w1 := ⟨_, rfl⟩
  have hB1 : Hid (Below w.heap.size w w1) := Lib.hid (by rw [← hw1]; exact (Below.refl _ _).alloc (Nat.le_refl _) _)
  have hH := Lib.hid (rHas_any w1 q c A ks (h.below hB1.out) hr.ok (by omega) x hx)
  obtain ⟨N, hN⟩ : ∃ N, ks.length = N := ⟨_, rfl⟩
  obtain ⟨g, hg⟩ : ∃ g, w.heap.size = g := ⟨_, rfl⟩
  have hqg : Hid (q < w.heap.size ∧ w.heap.size ≤ g ∧ g < w1.heap.size) := Lib.hid ⟨h.lts.1, by omega, by rw [← hw1, ← hg]; simp⟩
  have hN' := Lib.hid hN
  have hr' := Lib.hid hr
  have hx' := Lib.hid hx
  have hset' := Lib.hid h
  rw [hw1, hN] at hR0
  rw [hN] at hL
  have hR1 : Hid (RH w q A N c g x w1) := Lib.hid (hg ▸ hR0.out)
  obtain ⟨Q, hQ⟩ : ∃ Q, RDelP w q ks x = Q := ⟨_, rfl⟩
  rw [hQ]
  have hQ' := Lib.hid hQ
  have honX : Hid (∀ u ∈ (u8s x).toArray.toList, u.oneCell' = true) := Lib.hid (fun u hu => u8s_one u (by simpa using hu))
  by_cases hm : x ∈ ks
  rotate_left
  · rw [decide_eq_false hm] at hH
    have hfin : Hid (∀ w5, Below w1.heap.size w1 w5 → Q (.returned (.bool false)) w5) := Lib.hid fun w5 h5 => by
      rw [← hQ'.out]
      refine ⟨by rw [decide_eq_false hm], ⟨A, c, ?_⟩, (Upd.of_below hB1.out).trans (Upd.of_below h5)⟩
      rw [delK_of_not hm]
      exact (hset'.out.below hB1.out).below h5
    clear h hr hx hQ hm
    go_enter Try.func48, Try.ntmps48
    go_wp2_with (first
      | (refine wpList_load_row rfl 25 _ rfl g rfl 25 (u8s x).toArray (0, 0) _ hR1.out.key Try.underlying25 rfl (by rw [hxs.out]; exact hi32.out) ?_)
      | (go_at_call 40; refine hH.out.mono ?_; rintro e w5 ⟨rfl, b5⟩; have hf := Lib.hid (hfin.out w5 b5); clear b5 hH))
    exact hf.out
  rw [decide_eq_true hm] at hH
  have hm' := Lib.hid hm
  clear h hr hx hQ hm
  go_enter Try.func48, Try.ntmps48
  go_wp2_with (first
    | (refine wpList_load_row rfl 25 _ rfl g rfl 25 (u8s x).toArray (0, 0) _ hR1.out.key Try.underlying25 rfl (by rw [hxs.out]; exact hi32.out) ?_)
    | (go_at_call 40; refine hH.out.mono ?_; rintro e w5 ⟨rfl, b5⟩; have hR5 := Lib.hid (hR1.out.keep b5); have hb5 := Lib.hid b5; clear b5 hH))
  clear hw1
  obtain ⟨lo, hlo0⟩ : ∃ lo, w5.heap.size = lo := ⟨_, rfl⟩
  have hlo : Hid (lo ≤ w5.heap.size) := Lib.hid (by omega)
  have hqg : Hid ((q < lo ∧ w.heap.size ≤ lo) ∧ g < lo) := Lib.hid (by
    have h1 := hqg.out
    have h2 := hb5.out.size
    omega)
  have hlo0' := Lib.hid hlo0
  clear hlo0 hR0
  go_loopw [5, 6] (fun lv iv wr => ∃ (i K c5 : Nat) (A5 : Option Addr) (pre : List (List Nat)), i ≤ N ∧ K ≤ i ∧ lv = .slice A5 K c5 ∧ iv = .int .i64 (i : Int) ∧ Hid (delK x (ks.take i) = pre) ∧ Hid (RH w q A N c g x wr) ∧ Hid (lo ≤ wr.heap.size) ∧ Hid (Own wr lo 25 32 A5 K c5 (rowsK pre))) (fun _ iv _ => N - (intOf iv).toNat)
  case atStart => exact ⟨0, 0, 0, none, [], by omega, by omega, rfl, rfl, Lib.hid rfl, hR5, hlo, Lib.hid (Own.nil _ _ _ _)⟩
  case round =>
    clear hR5 hlo
    obtain ⟨i, K, c5, A5, pre, hi, hK, rfl, rfl, hF, hR, hlo, hO⟩ := hrel
    have c0 := hR.out.cel
    by_cases hlt : i < N
    · obtain ⟨y, hy⟩ : ∃ y, ks[i]? = some y := ⟨_, List.getElem?_eq_getElem (by rw [hN'.out]; exact hlt)⟩
      have hym := List.mem_of_getElem? hy
      have hyk : IsK y := hr'.out.ok y hym
      obtain ⟨b, off, rfl, hbl, hrg⟩ := ownK_at hown.out (fun z hz => (hr'.out.ok z hz).1) hy
      have hrk : Hid (∀ W, Below w.heap.size w W → W.rangeAt b (off + i * 32) (u8s y)) := Lib.hid fun W hW => rangeAt_below hW hbl hrg
      have hy32 : Hid ((u8s y).length = 32) := Lib.hid (by simp [u8s, hyk.1])
      have hys : Hid ((u8s y).toArray.size = 32) := Lib.hid (by simp [u8s, hyk.1])
      have hbY : Hid _ := Lib.hid (builtK y hyk.1)
      have honY : Hid (∀ u ∈ (u8s y).toArray.toList, u.oneCell' = true) := Lib.hid (fun u hu => u8s_one u (by simpa using hu))
      have hd : Hid (RH w q (some ⟨b, off, none⟩) N c g x wr.drew) := Lib.hid (hR.out.keep (below_drewN (Below.refl _ _) 1))
      have hOd : Hid (Own wr.drew lo 25 32 A5 K c5 (rowsK pre)) := Lib.hid (hO.out.below (below_drewN (Below.refl _ _) 1) (fun k hk => (hO.out.lt k hk).2))
      have hFs : Hid (delK x (ks.take (i + 1)) = if y = x then pre else pre ++ [y]) := Lib.hid (by rw [List.take_add_one, hy, Option.toList_some, delK_snoc, hF.out])
      clear hF hR hO hy hym hbl hrg
      have hO := hOd
      clear hOd
      by_cases hxy : y = x
      · have hFx : Hid (delK x (ks.take (i + 1)) = pre) := Lib.hid (by rw [hFs.out, if_pos hxy])
        have hcmp : Hid (∀ W, (binOp .neq 25 (.agg (u8s y).toArray) (.agg (u8s x).toArray)).run Try.prog W = .ok (.bool false) W) := Lib.hid fun W => by
          have := neK hyk.1 hx'.out.1 W
          rwa [decide_eq_true hxy] at this
        clear hFs hyk hxy
        go_wp2_with fail
        refine wp_region_held (S := RH w q (some ⟨b, off, none⟩) N c g x) (by kernel_rfl) ?_
        change wpAnyH _ _ _ _ _ _ _ _ (World.drew _)
        refine tk (i := 0) (d := 20) (v := (.pointer (some ⟨q, 0, none⟩))) rfl rfl (Or.inl ⟨by rfl, by intro W hW; clear hW; go_simp⟩) hd.out ?_
        simp only [List.setIfInBounds_toArray, List.set_cons_zero, List.set_cons_succ]
        refine tk (i := 1) (d := 21) (v := (.pointer (some ⟨q, 0, none⟩))) rfl rfl (Or.inl ⟨by rfl, by intro W hW; clear hW; go_simp⟩) hd.out ?_
        simp only [List.setIfInBounds_toArray, List.set_cons_zero, List.set_cons_succ]
        refine tk (i := 2) (d := 22) (v := (.pointer (some ⟨q, 0, none⟩))) rfl rfl (Or.inl ⟨by rfl, by intro W hW; clear hW; go_simp⟩) hd.out ?_
        simp only [List.setIfInBounds_toArray, List.set_cons_zero, List.set_cons_succ]
        refine tk (i := 3) (d := 23) (v := (.slice (some ⟨b, off, none⟩) N c)) rfl rfl (Or.inl ⟨by rfl, by intro W hW; have c0 := hW.cel; clear hW; go_simp⟩) hd.out ?_
        simp only [List.setIfInBounds_toArray, List.set_cons_zero, List.set_cons_succ]
        refine tk (i := 4) (d := 24) (v := (.int .i64 (i : Int))) rfl rfl (Or.inl ⟨by rfl, by intro W hW; clear hW; go_simp⟩) hd.out ?_
        simp only [List.setIfInBounds_toArray, List.set_cons_zero, List.set_cons_succ]
        refine tk (i := 5) (d := 25) (v := (.pointer (some ⟨b, off + i * 32, none⟩))) rfl rfl (Or.inl ⟨by rfl, by intro W hW; clear hW; go_simp⟩) hd.out ?_
        simp only [List.setIfInBounds_toArray, List.set_cons_zero, List.set_cons_succ]
        refine tk (i := 6) (d := 26) (v := (.agg (u8s y).toArray)) rfl rfl (yieldsIf_load_mid (by rfl) 25 _ rfl b (off + i * 32) rfl (u8s y) _ (fun W hW => hrk.out W hW.bel) Try.underlying25 rfl (by rw [hy32.out]; exact hi32.out)) hd.out ?_
        simp only [List.setIfInBounds_toArray, List.set_cons_zero, List.set_cons_succ]
        refine tk (i := 7) (d := 27) (v := (.agg (u8s x).toArray)) rfl rfl (yieldsIf_load_row (by rfl) 25 _ rfl g rfl 25 (u8s x).toArray (0, 0) _ (fun W hW => hW.key) Try.underlying25 rfl (by rw [hxs.out]; exact hi32.out)) hd.out ?_
        simp only [List.setIfInBounds_toArray, List.set_cons_zero, List.set_cons_succ]
        refine tk (i := 8) (d := 28) (v := (.bool false)) rfl rfl (yieldsIf_binA (by rfl) .neq 25 _ _ _ rfl (.agg (u8s y).toArray) (.agg (u8s x).toArray) rfl rfl (.bool false) (fun _ => rfl) (fun W _ => hcmp.out W)) hd.out ?_
        simp only [List.setIfInBounds_toArray, List.set_cons_zero, List.set_cons_succ]
        refine wpAnyH_done (by kernel_rfl) ?_ _
        have hdz := hd
        have c0 := hdz.out.cel
        go_wp2_with fail
        go_roundw
        case rel => exact ⟨i + 1, K, c5, A5, pre, by omega, by omega, rfl, by go_num, hFx, hdz, hlo, hO⟩
        case measure => simp [intOf]; omega
      · have hFx : Hid (delK x (ks.take (i + 1)) = pre ++ [y]) := Lib.hid (by rw [hFs.out, if_neg hxy])
        have hcmp : Hid (∀ W, (binOp .neq 25 (.agg (u8s y).toArray) (.agg (u8s x).toArray)).run Try.prog W = .ok (.bool true) W) := Lib.hid fun W => by
          have := neK hyk.1 hx'.out.1 W
          rwa [decide_eq_false hxy] at this
        clear hFs hyk hxy
        go_wp2_with fail
        refine wp_region_held (S := RH w q (some ⟨b, off, none⟩) N c g x) (by kernel_rfl) ?_
        change wpAnyH _ _ _ _ _ _ _ _ (World.drew _)
        refine tk (i := 0) (d := 20) (v := (.pointer (some ⟨q, 0, none⟩))) rfl rfl (Or.inl ⟨by rfl, by intro W hW; clear hW; go_simp⟩) hd.out ?_
        simp only [List.setIfInBounds_toArray, List.set_cons_zero, List.set_cons_succ]
        refine tk (i := 1) (d := 21) (v := (.pointer (some ⟨q, 0, none⟩))) rfl rfl (Or.inl ⟨by rfl, by intro W hW; clear hW; go_simp⟩) hd.out ?_
        simp only [List.setIfInBounds_toArray, List.set_cons_zero, List.set_cons_succ]
        refine tk (i := 2) (d := 22) (v := (.pointer (some ⟨q, 0, none⟩))) rfl rfl (Or.inl ⟨by rfl, by intro W hW; clear hW; go_simp⟩) hd.out ?_
        simp only [List.setIfInBounds_toArray, List.set_cons_zero, List.set_cons_succ]
        refine tk (i := 3) (d := 23) (v := (.slice (some ⟨b, off, none⟩) N c)) rfl rfl (Or.inl ⟨by rfl, by intro W hW; have c0 := hW.cel; clear hW; go_simp⟩) hd.out ?_
        simp only [List.setIfInBounds_toArray, List.set_cons_zero, List.set_cons_succ]
        refine tk (i := 4) (d := 24) (v := (.int .i64 (i : Int))) rfl rfl (Or.inl ⟨by rfl, by intro W hW; clear hW; go_simp⟩) hd.out ?_
        simp only [List.setIfInBounds_toArray, List.set_cons_zero, List.set_cons_succ]
        refine tk (i := 5) (d := 25) (v := (.pointer (some ⟨b, off + i * 32, none⟩))) rfl rfl (Or.inl ⟨by rfl, by intro W hW; clear hW; go_simp⟩) hd.out ?_
        simp only [List.setIfInBounds_toArray, List.set_cons_zero, List.set_cons_succ]
        refine tk (i := 6) (d := 26) (v := (.agg (u8s y).toArray)) rfl rfl (yieldsIf_load_mid (by rfl) 25 _ rfl b (off + i * 32) rfl (u8s y) _ (fun W hW => hrk.out W hW.bel) Try.underlying25 rfl (by rw [hy32.out]; exact hi32.out)) hd.out ?_
        simp only [List.setIfInBounds_toArray, List.set_cons_zero, List.set_cons_succ]
        refine tk (i := 7) (d := 27) (v := (.agg (u8s x).toArray)) rfl rfl (yieldsIf_load_row (by rfl) 25 _ rfl g rfl 25 (u8s x).toArray (0, 0) _ (fun W hW => hW.key) Try.underlying25 rfl (by rw [hxs.out]; exact hi32.out)) hd.out ?_
        simp only [List.setIfInBounds_toArray, List.set_cons_zero, List.set_cons_succ]
        refine tk (i := 8) (d := 28) (v := (.bool true)) rfl rfl (yieldsIf_binA (by rfl) .neq 25 _ _ _ rfl (.agg (u8s y).toArray) (.agg (u8s x).toArray) rfl rfl (.bool true) (fun _ => rfl) (fun W _ => hcmp.out W)) hd.out ?_
        simp only [List.setIfInBounds_toArray, List.set_cons_zero, List.set_cons_succ]
        refine wpAnyH_done (by kernel_rfl) ?_ _
        have hdz := hd
        have c0 := hdz.out.cel
        have hOz := hO.out
        have hlz := hlo
        go_wp2_with (first
          | (refine wpList_load_mid rfl 25 _ rfl b (off + i * 32) rfl (u8s y) _ (hrk.out _ hdz.out.bel) Try.underlying25 rfl (by rw [hy32.out]; exact hi32.out) ?_)
          | (refine Great.wpList_buildSliceTo rfl 34 25 1 _ rfl _ rfl _ rfl Try.underlying34 (u8s y).toArray (by rw [List.map_toArray]; exact hbY.out) ?_)
          | (at_builtin; refine wpList_app1 elK _ (u8s y).toArray hys.out rfl _ _ rfl rfl hOz rfl honY.out (by unfold maxLen; omega) (by omega) hlz.out (K + 1) rfl (rowsK (pre ++ [y])) (by simp [rowsK]) ?_
             intro A7 c7 w7 o7 at7 b7
             have o7' := Lib.hid o7
             have hd7 := Lib.hid (hdz.out.app b7 hqg.out.1 hqg.out.2)
             have hl7 := Lib.hid (Nat.le_trans hlz.out at7.grown.size)
             clear o7 at7 b7))
        go_roundw
        case rel => exact ⟨i + 1, K + 1, c7, A7, pre ++ [y], by omega, by omega, rfl, by go_num, hFx, hd7, hl7, o7'⟩
        case measure => simp [intOf]; omega
    · have f0 : wr.frozen? ⟨q, 0, none⟩ = false := frozen_of_row _ _ _ _ _ hR.out.set
      have hl : delK x ks = pre := by have := hF.out; rwa [List.take_of_length_le (by rw [hN'.out]; omega)] at this
      have hfin : Hid (Q (.returned (.bool true)) (wr.setCell ⟨q, 0, none⟩ (.slice A5 K c5))) := Lib.hid (by
        rw [← hQ'.out]
        have hrl := hr'.out.del (x := x)
        rw [hl] at hrl
        have hlen : K = (delK x ks).length := by
          rw [hl]
          exact (ownK_len hO.out (fun z hz => (hrl.ok z hz).1)).symm
        refine ⟨by rw [decide_eq_true hm'.out], ⟨A5, c5, ?_, ?_⟩, ?_⟩
        · rw [← hlen]
          have := heap_setCell_same wr q 0 _ _ (.slice A5 K c5) hR.out.set
          simpa using this
        · rw [← hlen, hl]
          exact (hO.out.setFar (p := ⟨q, 0, none⟩) hqg.out.1.1 _).base (Nat.zero_le _)
        · exact (Upd.of_below hR.out.bel).trans (Upd.set (F := fun k => k = q) wr (p := ⟨q, 0, none⟩) rfl _))
      clear hF hl
      go_wp2_with fail
      exact hfin.out
end Go.Proofs.Ytlolnpilpdkbkaa

namespace Go.Proofs.Ytlolnpilpdkbkaa
open Go.RowKit Go.Maps
set_option linter.unusedSimpArgs false
set_option linter.unusedVariables false

theorem RSet.row {w : World} {q c : Nat} {A : Option Addr} {ks : List (List Nat)} (h : RSet w q A c ks) (hk : ∀ x ∈ ks, IsK x) : KeyRow w A ks := fun k x hx => by
  obtain ⟨b, off, e, hb, hr⟩ := ownK_at h.2 (fun z hz => (hk z hz).1) hx
  exact ⟨hk x (List.mem_of_getElem? hx), b, off, e, hb, hr⟩
theorem RSet.cel {w : World} {q c : Nat} {A : Option Addr} {ks : List (List Nat)} (h : RSet w q A c ks) {N : Nat} (hN : ks.length = N) : w.cell? ⟨q, 0, none⟩ = some (.slice A N c) := by
  subst hN
  unfold World.cell?
  simp [h.1]
theorem insAll_snoc (xs ks : List (List Nat)) (x : List Nat) : insAll (xs ++ [x]) ks = insK x (insAll xs ks) := by simp [insAll]
/-- What stands while a set is built: the new set at s. -/
def RNI (w : World) (s : Nat) (ks : List (List Nat)) (W : World) : Prop := Below w.heap.size w W ∧ ∃ A c, RSet W s A c ks
theorem RNI.keep {w W W' : World} {s : Nat} {ks : List (List Nat)} (h : RNI w s ks W) (hb : Below W.heap.size W W') : RNI w s ks W' := by
  obtain ⟨h1, A, c, h2⟩ := h
  exact ⟨h1.trans (hb.mono h1.size), A, c, h2.below hb⟩
theorem RNI.add {w W W' : World} {s : Nat} {ks ks' : List (List Nat)} (h : RNI w s ks W) (hs : w.heap.size ≤ s) (h2 : ∃ A c, RSet W' s A c ks') (hu : Upd (fun k => k = s) W W') : RNI w s ks' W' :=
  ⟨h.1.trans (hu.below (fun k _ e => by omega) h.1.size), h2⟩
/-- Add of the set that is built. -/
theorem RNI.call {w : World} {s : Nat} {ks : List (List Nat)} (hs : w.heap.size ≤ s) (hr : Rise32 ks) (hL : ks.length ≤ 4194304) (x : List Nat) (hx : IsK x) (W : World) (h : RNI w s ks W) :
    Calls Try.prog 38 #[.pointer (some ⟨s, 0, none⟩), .agg (u8s x).toArray] W fun e w' => (∃ b, e = .returned (.bool b)) ∧ RNI w s (insK x ks) w' := by
  obtain ⟨h1, A, c, h2⟩ := h
  refine (rAdd_any W s c A ks h2 hr hL x hx).mono ?_
  rintro e w' ⟨he, h3, h4⟩
  exact ⟨⟨_, he⟩, RNI.add ⟨h1, A, c, h2⟩ hs h3 h4⟩
def RNewP (w : World) (ks : List (List Nat)) (e : Ending) (w' : World) : Prop :=
  ∃ q A c, e = .returned (.pointer (some ⟨q, 0, none⟩)) ∧ RSet w' q A c ks ∧ Below w.heap.size w w' ∧ w.heap.size ≤ q
set_option maxRecDepth 100000 in
set_option maxHeartbeats 2000000 in
theorem rNew_any (w : World) (A : Option Addr) (xs : List (List Nat)) (n c : Nat) (hn : xs.length = n) (hL : n ≤ 2097152) (hA : KeyRow w A xs) :
    Calls Try.prog 22 #[.slice A n c] w (RNewP w (insAll xs [])) := by
  have hi32 : Hid ((Try.prog.info? 25).map (·.size) = some 32) := Lib.hid (by kernel_rfl)
  have hn' := Lib.hid hn
  have hA' := Lib.hid hA
  have hxk : ∀ x ∈ xs, IsK x := fun x hx => by
    obtain ⟨k, hk, rfl⟩ := List.mem_iff_getElem.1 hx
    exact (hA k _ (List.getElem?_eq_getElem hk)).1
  have hxk' := Lib.hid hxk
  obtain ⟨s, hs⟩ : ∃ s, w.heap.size = s := ⟨_, rfl⟩
  obtain ⟨Q, hQ⟩ : ∃ Q, RNewP w (insAll xs []) = Q := ⟨_, rfl⟩
  have hfin : Hid (∀ W, RNI w s (insAll xs []) W → Q (.returned (.pointer (some ⟨s, 0, none⟩))) W) := Lib.hid fun W h => by
    rw [← hQ]
    obtain ⟨h1, A, c, h2⟩ := h
    exact ⟨s, A, c, rfl, h2, h1, by omega⟩
  obtain ⟨w1, hw1⟩ : ∃ w1, w.alloc (.cells #[.slice none 0 0] 67) = w1 := ⟨_, rfl⟩
  have h0 : Hid (RNI w s [] w1) := Lib.hid (by
    rw [← hw1, ← hs]
    exact ⟨(Below.refl _ _).alloc (Nat.le_refl _) _, none, 0, heap_alloc_new w _, Own.nil _ _ _ _⟩)
  have hs' : Hid (w.heap.size ≤ s) := Lib.hid (by omega)
  rw [hQ]
  have hsz : w.heap.size = s := hs
  clear hn hA hxk hQ hs
  go_enter Try.func22, Try.ntmps22
  go_wp2_with fail
  clear hw1
  go_loopw [4] (fun iv wr => ∃ i : Nat, i ≤ n ∧ iv = .int .i64 (i : Int) ∧ Hid (RNI w s (insAll (xs.take i) []) wr)) (fun iv _ => n - (intOf iv).toNat)
  case atStart => exact ⟨0, by omega, rfl, h0⟩
  case round =>
    clear h0
    obtain ⟨i, hi, rfl, hI⟩ := hrel
    by_cases hlt : i < n
    · obtain ⟨x, hx⟩ : ∃ x, xs[i]? = some x := ⟨_, List.getElem?_eq_getElem (by rw [hn'.out]; exact hlt)⟩
      obtain ⟨hk, b, off, rfl, hbl, hrg⟩ := hA'.out i x hx
      have hrk : Hid (wr.rangeAt b (off + i * 32) (u8s x)) := Lib.hid (rangeAt_below hI.out.1 hbl hrg)
      have hx32 : Hid ((u8s x).length = 32) := Lib.hid (by simp [u8s, hk.1])
      have hC := Lib.hid (RNI.call hs'.out (Rise32.insAll (fun z hz => hxk'.out z (List.mem_of_mem_take hz)) Rise32.nil) (by have := len_insAll (xs.take i) []; simp at this; omega) x hk wr hI.out)
      have htk : Hid (insK x (insAll (xs.take i) []) = insAll (xs.take (i + 1)) []) := Lib.hid (by rw [List.take_add_one, hx, Option.toList_some, insAll_snoc])
      clear hx hk hbl hrg hI
      go_wp2_with (first
        | (refine wpList_load_mid rfl 25 _ rfl b (off + i * 32) rfl (u8s x) _ hrk.out Try.underlying25 rfl (by rw [hx32.out]; exact hi32.out) ?_)
        | (go_at_call 38; refine hC.out.mono ?_; rintro e w5 ⟨⟨bb, rfl⟩, h5⟩; have h5' := Lib.hid h5; clear h5 hC))
      go_roundw
      case rel => exact ⟨i + 1, by omega, by go_num, Lib.hid (by rw [← htk.out]; exact h5'.out)⟩
      case measure => simp [intOf]; omega
    · have hf := Lib.hid (hfin.out wr (by have := hI.out; rwa [List.take_of_length_le (by rw [hn'.out]; omega)] at this))
      clear hI
      go_wp2_with fail
      exact hf.out
end Go.Proofs.Ytlolnpilpdkbkaa
