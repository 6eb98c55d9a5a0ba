/- The document's value of a digit. (Out of KxV.) The document's set: Has. (Printed by tools/gensr.py.) -/
import Derived.Test.YtlolnpilpdkbkaaPkA16

namespace Go.Proofs.Ytlolnpilpdkbkaa
open Go.RowKit
set_option linter.unusedSimpArgs false
set_option linter.unusedVariables false

theorem index_dig (i : Nat) (hi : i < 16) (W : World) : (Instr.index 9 (.string ⟨#[48, 49, 50, 51, 52, 53, 54, 55, 56, 57, 97, 98, 99, 100, 101, 102]⟩) (.int .i64 (i : Int))).run Try.prog W = .ok (.int .u8 ((dg i).toNat : Int)) W := by
  rcases (show i = 0 ∨ i = 1 ∨ i = 2 ∨ i = 3 ∨ i = 4 ∨ i = 5 ∨ i = 6 ∨ i = 7 ∨ i = 8 ∨ i = 9 ∨ i = 10 ∨ i = 11 ∨ i = 12 ∨ i = 13 ∨ i = 14 ∨ i = 15 by omega) with rfl | rfl | rfl | rfl | rfl | rfl | rfl | rfl | rfl | rfl | rfl | rfl | rfl | rfl | rfl | rfl <;> kernel_rfl
theorem val_none {c : UInt8} (h : ∀ j, j < 16 → dg j ≠ c) : val c = -1 := by
  have h1 := val_ge c
  rcases Int.lt_or_le (val c) 0 with h2 | h2
  · omega
  · obtain ⟨h3, h4⟩ := val_lt c h2
    exact absurd h4 (h _ (by omega))
set_option maxRecDepth 100000 in
set_option maxHeartbeats 1000000 in
theorem refValue_any (c : UInt8) (w : World) : Calls Try.prog 59 #[.int .u8 (c.toNat : Int)] w fun e w' => e = .returned (.int .i64 (val c)) ∧ w' = w := by
  obtain ⟨T, hT⟩ : ∃ T, Hid (val c = T) := ⟨_, Lib.hid rfl⟩
  rw [hT.out]
  obtain ⟨n, hn⟩ : ∃ n, c.toNat = n := ⟨_, rfl⟩
  have hn' := Lib.hid hn
  rw [hn]
  clear hn
  go_enter Try.func59, Try.ntmps59
  go_wp2_with fail
  go_loopw [3] (fun iv wr => ∃ i : Nat, i ≤ 16 ∧ iv = .int .i64 (i : Int) ∧ Hid (∀ j, j < i → dg j ≠ c) ∧ wr = w) (fun iv _ => 16 - (intOf iv).toNat)
  case atStart => exact ⟨0, by omega, rfl, Lib.hid fun j hj => by omega, rfl⟩
  case round =>
    obtain ⟨i, hi, rfl, hno, rfl⟩ := hrel
    by_cases hlt : i < 16
    · have hix := index_dig i hlt
      obtain ⟨d, hd⟩ : ∃ d, (dg i).toNat = d := ⟨_, rfl⟩
      rw [hd] at hix
      by_cases he : d = n
      · have hv : Hid (T = (i : Int)) := Lib.hid (by
          have : dg i = c := UInt8.toNat_inj.1 (by rw [hd, he, hn'.out])
          rw [← hT.out, ← this]
          exact val_dg i hlt)
        have q1 : ((d : Int) == (n : Int)) = true := by simp [he]
        clear hd he
        go_wp2_with fail
        go_ret
        exact ⟨ret_int (by first | rw [hv.out] | rw [hv]), rfl⟩
      · have q1 : ((d : Int) == (n : Int)) = false := by simp; omega
        have hno2 : Hid (∀ j, j < i + 1 → dg j ≠ c) := Lib.hid fun j hj e => by
          rcases Nat.lt_or_ge j i with h | h
          · exact hno.out j h e
          · rw [show j = i by omega] at e
            exact he (by rw [← hd, e, hn'.out])
        clear hd he
        go_wp2_with fail
        go_roundw
        case rel => exact ⟨i + 1, by omega, by go_num, hno2, trivial⟩
        case measure => simp [intOf]; omega
    · have hv : Hid (T = -1) := Lib.hid (by rw [← hT.out]; exact val_none fun j hj => hno.out j (by omega))
      go_wp2_with fail
      go_ret
      exact ⟨ret_int (by first | rw [hv.out] | rw [hv]), rfl⟩
end Go.Proofs.Ytlolnpilpdkbkaa

namespace Go.Proofs.Ytlolnpilpdkbkaa
open Go.RowKit Go.Maps
set_option linter.unusedSimpArgs false
set_option linter.unusedVariables false

/-- A set of the document's at q: its keys. -/
def RSet (w : World) (q : Nat) (A : Option Addr) (c : Nat) (ks : List (List Nat)) : Prop :=
  w.heap[q]? = some (.cells #[.slice A ks.length c] 67 (0, 0)) ∧ Own w 0 25 32 A ks.length c (rowsK ks)
section
variable {w w' : World} {q c : Nat} {A : Option Addr} {ks : List (List Nat)}
theorem RSet.keep (h : RSet w q A c ks) (h1 : w'.heap[q]? = w.heap[q]?) (h2 : ∀ k, blockOf A = some k → w'.heap[k]? = w.heap[k]?) : RSet w' q A c ks :=
  ⟨h1.trans h.1, own_same h.2 h2⟩
theorem RSet.lts (h : RSet w q A c ks) : q < w.heap.size ∧ ∀ k, blockOf A = some k → k < w.heap.size :=
  ⟨(Array.getElem?_eq_some_iff.1 h.1).1, fun k hk => (h.2.lt k hk).2⟩
theorem RSet.below (h : RSet w q A c ks) (hb : Below w.heap.size w w') : RSet w' q A c ks :=
  h.keep (hb.block _ h.lts.1) (fun k hk => hb.block _ (h.lts.2 k hk))
/-- The row's block holds keys. -/
theorem RSet.tag (h : RSet w q A c ks) {k : Nat} (hk : blockOf A = some k) : ∃ cs fr, w.heap[k]? = some (.cells cs 25 fr) := by
  rcases h.2.2 with ⟨h0, _⟩ | ⟨g, cap, cur, hv, _, hg, _⟩
  · injection h0 with hA
    rw [hA] at hk
    cases hk
  · injection hv with hA
    rw [hA] at hk
    cases hk
    exact ⟨_, _, hg⟩
end
/-- What stands while a set's call goes on: the set's cell, the box of the key. -/
structure RH (w0 : World) (q : Nat) (A : Option Addr) (N c g : Nat) (x : List Nat) (W : World) : Prop where
  bel : Below w0.heap.size w0 W
  set : W.heap[q]? = some (.cells #[.slice A N c] 67 (0, 0))
  key : W.heap[g]? = some (.cells (u8s x).toArray 25 (0, 0))
section
variable {w0 W W' : World} {q N c g : Nat} {A : Option Addr} {x : List Nat}
theorem RH.cel (h : RH w0 q A N c g x W) : W.cell? ⟨q, 0, none⟩ = some (.slice A N c) := by
  unfold World.cell?
  simp [h.set]
theorem RH.keep (h : RH w0 q A N c g x W) (hb : Below W.heap.size W W') : RH w0 q A N c g x W' :=
  ⟨h.bel.trans (hb.mono h.bel.size), (hb.block _ (Array.getElem?_eq_some_iff.1 h.set).1).trans h.set, (hb.block _ (Array.getElem?_eq_some_iff.1 h.key).1).trans h.key⟩
end
theorem RH.start {w : World} {q c : Nat} {A : Option Addr} {ks : List (List Nat)} (h : RSet w q A c ks) (x : List Nat) : RH w q A ks.length c w.heap.size x (w.alloc (.cells (u8s x).toArray 25)) :=
  ⟨(Below.refl _ _).alloc (Nat.le_refl _) _, (heap_alloc_old w _ h.lts.1).trans h.1, heap_alloc_new w _⟩
set_option maxRecDepth 100000 in
set_option maxHeartbeats 1000000 in
theorem rHas_any (w : World) (q c : Nat) (A : Option Addr) (ks : List (List Nat)) (h : RSet w q A c ks) (hk : ∀ y ∈ ks, IsK y) (hL : ks.length < 140737488355328) (x : List Nat) (hx : IsK x) :
    Calls Try.prog 40 #[.pointer (some ⟨q, 0, none⟩), .agg (u8s x).toArray] w fun e w' => e = .returned (.bool (decide (x ∈ ks))) ∧ Below w.heap.size w w' := by
  have hR0 := Lib.hid (RH.start h x)
  have hown := Lib.hid h.2
  have hi32 : Hid ((Try.prog.info? 25).map (·.size) = some 32) := Lib.hid (by kernel_rfl)
  have hxs : Hid ((u8s x).toArray.size = 32) := Lib.hid (by simp [u8s, hx.1])
  obtain ⟨N, hN⟩ : ∃ N, ks.length = N := ⟨_, rfl⟩
  obtain ⟨B, hB⟩ : ∃ B, decide (x ∈ ks) = B := ⟨_, rfl⟩
  obtain ⟨w1, hw1⟩ : ∃ w1, w.alloc (.cells (u8s x).toArray 25) = w1 := ⟨_, rfl⟩
  obtain ⟨g, hg⟩ : ∃ g, w.heap.size = g := ⟨_, rfl⟩
  rw [hB]
  rw [hN] at hL
  have hB' := Lib.hid hB
  have hN' := Lib.hid hN
  have hks := Lib.hid hk
  have hxl := Lib.hid hx.1
  rw [hw1, hN] at hR0
  have hR1 : Hid (RH w q A N c g x w1) := Lib.hid (hg ▸ hR0.out)
  have hg' := Lib.hid hg
  clear h hk hB hN hx hR0
  rw [← hg] at hR1
  rw [hg] at hR1
  go_enter Try.func40, Try.ntmps40
  go_wp2_with fail
  clear hw1
  go_loopw [5] (fun iv wr => ∃ i : Nat, i ≤ N ∧ iv = .int .i64 (i : Int) ∧ Hid (∀ j y, j < i → ks[j]? = some y → y ≠ x) ∧ Hid (RH w q A N c g x wr)) (fun iv _ => N - (intOf iv).toNat)
  case atStart => exact ⟨0, by omega, rfl, Lib.hid (fun j y hj => by omega), hR1⟩
  case round =>
    clear hR1
    obtain ⟨i, hi, rfl, hno, hR⟩ := hrel
    have c0 := hR.out.cel
    by_cases hlt : i < N
    · obtain ⟨y, hy⟩ : ∃ y, ks[i]? = some y := ⟨_, List.getElem?_eq_getElem (by rw [hN'.out]; exact hlt)⟩
      have hym := List.mem_of_getElem? hy
      have hyk : IsK y := hks.out y hym
      obtain ⟨b, off, rfl, hbl, hrg⟩ := ownK_at hown.out (fun z hz => (hks.out z hz).1) hy
      have hrk : Hid (∀ W, Below w.heap.size w W → W.rangeAt b (off + i * 32) (u8s y)) := Lib.hid fun W hW => rangeAt_below hW hbl hrg
      have hy32 : Hid ((u8s y).length = 32) := Lib.hid (by simp [u8s, hyk.1])
      have hd : Hid (RH w q (some ⟨b, off, none⟩) N c g x wr.drew) := Lib.hid (hR.out.keep (below_drewN (Below.refl _ _) 1))
      by_cases hxy : y = x
      · have hin : Hid (B = true) := Lib.hid (by rw [← hB'.out, decide_eq_true (hxy ▸ hym)])
        have hcmp : Hid (∀ W, (binOp .eql 25 (.agg (u8s y).toArray) (.agg (u8s x).toArray)).run Try.prog W = .ok (.bool true) W) := Lib.hid fun W => by
          have := eqK hyk.1 hxl.out W
          rwa [decide_eq_true hxy] at this
        clear hy hym hyk hbl hrg hxy hno
        go_wp2_with fail
        refine wp_region_held (S := RH w q (some ⟨b, off, none⟩) N c g x) (by kernel_rfl) ?_
        change wpAnyH _ _ _ _ _ _ _ _ (World.drew _)
        refine tk (i := 0) (d := 15) (v := (.pointer (some ⟨q, 0, none⟩))) rfl rfl (Or.inl ⟨by rfl, by intro W hW; clear hW; go_simp⟩) hd.out ?_
        simp only [List.setIfInBounds_toArray, List.set_cons_zero, List.set_cons_succ]
        refine tk (i := 1) (d := 16) (v := (.pointer (some ⟨q, 0, none⟩))) rfl rfl (Or.inl ⟨by rfl, by intro W hW; clear hW; go_simp⟩) hd.out ?_
        simp only [List.setIfInBounds_toArray, List.set_cons_zero, List.set_cons_succ]
        refine tk (i := 2) (d := 17) (v := (.pointer (some ⟨q, 0, none⟩))) rfl rfl (Or.inl ⟨by rfl, by intro W hW; clear hW; go_simp⟩) hd.out ?_
        simp only [List.setIfInBounds_toArray, List.set_cons_zero, List.set_cons_succ]
        refine tk (i := 3) (d := 18) (v := (.slice (some ⟨b, off, none⟩) N c)) rfl rfl (Or.inl ⟨by rfl, by intro W hW; have c0 := hW.cel; clear hW; go_simp⟩) hd.out ?_
        simp only [List.setIfInBounds_toArray, List.set_cons_zero, List.set_cons_succ]
        refine tk (i := 4) (d := 19) (v := (.int .i64 (i : Int))) rfl rfl (Or.inl ⟨by rfl, by intro W hW; clear hW; go_simp⟩) hd.out ?_
        simp only [List.setIfInBounds_toArray, List.set_cons_zero, List.set_cons_succ]
        refine tk (i := 5) (d := 20) (v := (.pointer (some ⟨b, off + i * 32, none⟩))) rfl rfl (Or.inl ⟨by rfl, by intro W hW; clear hW; go_simp⟩) hd.out ?_
        simp only [List.setIfInBounds_toArray, List.set_cons_zero, List.set_cons_succ]
        refine tk (i := 6) (d := 21) (v := (.agg (u8s y).toArray)) rfl rfl (yieldsIf_load_mid (by rfl) 25 _ rfl b (off + i * 32) rfl (u8s y) _ (fun W hW => hrk.out W hW.bel) Try.underlying25 rfl (by rw [hy32.out]; exact hi32.out)) hd.out ?_
        simp only [List.setIfInBounds_toArray, List.set_cons_zero, List.set_cons_succ]
        refine tk (i := 7) (d := 22) (v := (.agg (u8s x).toArray)) rfl rfl (yieldsIf_load_row (by rfl) 25 _ rfl g rfl 25 (u8s x).toArray (0, 0) _ (fun W hW => hW.key) Try.underlying25 rfl (by rw [hxs.out]; exact hi32.out)) hd.out ?_
        simp only [List.setIfInBounds_toArray, List.set_cons_zero, List.set_cons_succ]
        refine tk (i := 8) (d := 23) (v := (.bool true)) rfl rfl (yieldsIf_binA (by rfl) .eql 25 _ _ _ rfl (.agg (u8s y).toArray) (.agg (u8s x).toArray) rfl rfl (.bool true) (fun _ => rfl) (fun W _ => hcmp.out W)) hd.out ?_
        simp only [List.setIfInBounds_toArray, List.set_cons_zero, List.set_cons_succ]
        refine wpAnyH_done (by kernel_rfl) ?_ _
        have hdz := hd
        go_wp2_with fail
        go_ret
        exact ⟨by rw [hin.out]; rfl, hdz.out.bel⟩
      · have hno2 : Hid (∀ j z, j < i + 1 → ks[j]? = some z → z ≠ x) := Lib.hid fun j z hj hz => by
          rcases Nat.lt_or_ge j i with h | h
          · exact hno.out j z h hz
          · rw [show j = i by omega, hy] at hz
            cases hz
            exact hxy
        have hcmp : Hid (∀ W, (binOp .eql 25 (.agg (u8s y).toArray) (.agg (u8s x).toArray)).run Try.prog W = .ok (.bool false) W) := Lib.hid fun W => by
          have := eqK hyk.1 hxl.out W
          rwa [decide_eq_false hxy] at this
        clear hy hym hyk hbl hrg hxy hno
        go_wp2_with fail
        refine wp_region_held (S := RH w q (some ⟨b, off, none⟩) N c g x) (by kernel_rfl) ?_
        change wpAnyH _ _ _ _ _ _ _ _ (World.drew _)
        refine tk (i := 0) (d := 15) (v := (.pointer (some ⟨q, 0, none⟩))) rfl rfl (Or.inl ⟨by rfl, by intro W hW; clear hW; go_simp⟩) hd.out ?_
        simp only [List.setIfInBounds_toArray, List.set_cons_zero, List.set_cons_succ]
        refine tk (i := 1) (d := 16) (v := (.pointer (some ⟨q, 0, none⟩))) rfl rfl (Or.inl ⟨by rfl, by intro W hW; clear hW; go_simp⟩) hd.out ?_
        simp only [List.setIfInBounds_toArray, List.set_cons_zero, List.set_cons_succ]
        refine tk (i := 2) (d := 17) (v := (.pointer (some ⟨q, 0, none⟩))) rfl rfl (Or.inl ⟨by rfl, by intro W hW; clear hW; go_simp⟩) hd.out ?_
        simp only [List.setIfInBounds_toArray, List.set_cons_zero, List.set_cons_succ]
        refine tk (i := 3) (d := 18) (v := (.slice (some ⟨b, off, none⟩) N c)) rfl rfl (Or.inl ⟨by rfl, by intro W hW; have c0 := hW.cel; clear hW; go_simp⟩) hd.out ?_
        simp only [List.setIfInBounds_toArray, List.set_cons_zero, List.set_cons_succ]
        refine tk (i := 4) (d := 19) (v := (.int .i64 (i : Int))) rfl rfl (Or.inl ⟨by rfl, by intro W hW; clear hW; go_simp⟩) hd.out ?_
        simp only [List.setIfInBounds_toArray, List.set_cons_zero, List.set_cons_succ]
        refine tk (i := 5) (d := 20) (v := (.pointer (some ⟨b, off + i * 32, none⟩))) rfl rfl (Or.inl ⟨by rfl, by intro W hW; clear hW; go_simp⟩) hd.out ?_
        simp only [List.setIfInBounds_toArray, List.set_cons_zero, List.set_cons_succ]
        refine tk (i := 6) (d := 21) (v := (.agg (u8s y).toArray)) rfl rfl (yieldsIf_load_mid (by rfl) 25 _ rfl b (off + i * 32) rfl (u8s y) _ (fun W hW => hrk.out W hW.bel) Try.underlying25 rfl (by rw [hy32.out]; exact hi32.out)) hd.out ?_
        simp only [List.setIfInBounds_toArray, List.set_cons_zero, List.set_cons_succ]
        refine tk (i := 7) (d := 22) (v := (.agg (u8s x).toArray)) rfl rfl (yieldsIf_load_row (by rfl) 25 _ rfl g rfl 25 (u8s x).toArray (0, 0) _ (fun W hW => hW.key) Try.underlying25 rfl (by rw [hxs.out]; exact hi32.out)) hd.out ?_
        simp only [List.setIfInBounds_toArray, List.set_cons_zero, List.set_cons_succ]
        refine tk (i := 8) (d := 23) (v := (.bool false)) rfl rfl (yieldsIf_binA (by rfl) .eql 25 _ _ _ rfl (.agg (u8s y).toArray) (.agg (u8s x).toArray) rfl rfl (.bool false) (fun _ => rfl) (fun W _ => hcmp.out W)) hd.out ?_
        simp only [List.setIfInBounds_toArray, List.set_cons_zero, List.set_cons_succ]
        refine wpAnyH_done (by kernel_rfl) ?_ _
        have hdz := hd
        go_wp2_with fail
        go_roundw
        case rel => exact ⟨i + 1, by omega, by go_num, hno2, hdz⟩
        case measure => simp [intOf]; omega
    · have hin : Hid (B = false) := Lib.hid (by
        rw [← hB'.out]
        refine decide_eq_false fun hm => ?_
        obtain ⟨j, hj⟩ := List.mem_iff_getElem?.1 hm
        exact hno.out j x (by have := (List.getElem?_eq_some_iff.1 hj).1; rw [hN'.out] at this; omega) hj rfl)
      clear hno
      go_wp2_with fail
      go_ret
      exact ⟨by rw [hin.out]; rfl, hR.out.bel⟩
end Go.Proofs.Ytlolnpilpdkbkaa
