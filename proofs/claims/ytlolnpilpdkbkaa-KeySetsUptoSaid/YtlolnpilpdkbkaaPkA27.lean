/- Union, Both, Minus, at sets that may be nil. (Printed by tools/gensko.py out of KyV.) -/
import Derived.Test.YtlolnpilpdkbkaaPkA26

namespace Go.Proofs.Ytlolnpilpdkbkaa
open Go.RowKit Go.Maps Go.Shelf
set_option linter.unusedSimpArgs false
set_option linter.unusedVariables false
attribute [local go_sem] Oper.semAt_some

def TwoO (w : World) (ga gb : Nat) (oa ob : Option (Nat × Nat)) (ka kb : List (List Nat)) : Prop :=
  w.cell? ⟨ga, 0, none⟩ = some (pv oa) ∧ w.cell? ⟨gb, 0, none⟩ = some (pv ob) ∧ SetO w oa ka ∧ SetO w ob kb
theorem TwoO.below {w w' : World} {ga gb : Nat} {oa ob : Option (Nat × Nat)} {ka kb : List (List Nat)} (h : TwoO w ga gb oa ob ka kb) (hb : Below w.heap.size w w') : TwoO w' ga gb oa ob ka kb := by
  obtain ⟨h1, h2, h3, h4⟩ := h
  exact ⟨(hb.cell (p := ⟨ga, 0, none⟩) (World.block_lt_of_cell? _ _ h1)).trans h1, (hb.cell (p := ⟨gb, 0, none⟩) (World.block_lt_of_cell? _ _ h2)).trans h2, h3.below hb, h4.below hb⟩
set_option maxRecDepth 100000 in
set_option maxHeartbeats 1000000 in
theorem both1O_any (w : World) (ga gb : Nat) (oa ob : Option (Nat × Nat)) (ka kb : List (List Nat)) (h : TwoO w ga gb oa ob ka kb) (x : List Nat) (hx : IsK x) :
    Calls Try.prog 34 #[.agg (u8s x).toArray, .pointer (some ⟨ga, 0, none⟩), .pointer (some ⟨gb, 0, none⟩)] w fun e w' => e = .returned (.bool (decide (x ∈ ka) && decide (x ∈ kb))) ∧ Below w.heap.size w w' := by
  obtain ⟨w1, hw1⟩ : ∃ w1, w.alloc (.cells (u8s x).toArray 25) = w1 := ⟨_, rfl⟩
  have hB : Hid (Below w.heap.size w w1) := Lib.hid (by rw [← hw1]; exact (Below.refl _ _).alloc (Nat.le_refl _) _)
  have hT := Lib.hid (h.below hB.out)
  have hk1 : Hid (w1.heap[w.heap.size]? = some (.cells (u8s x).toArray 25 (0, 0))) := Lib.hid (by rw [← hw1]; exact heap_alloc_new w _)
  obtain ⟨g, hg⟩ : ∃ g, w.heap.size = g := ⟨_, rfl⟩
  rw [hg] at hk1
  have hi32 : Hid ((Try.prog.info? 25).map (·.size) = some 32) := Lib.hid (by kernel_rfl)
  have hs32 : Hid ((u8s x).toArray.size = 32) := Lib.hid (by simp [u8s, hx.1])
  have hA := Lib.hid (hasO_any w1 oa ka hT.out.2.2.1 x hx)
  have hBs : Hid (∀ W, Below w1.heap.size w1 W → TwoO W ga gb oa ob ka kb ∧ Calls Try.prog 16 #[pv ob, .agg (u8s x).toArray] W fun e w' => e = .returned (.bool (decide (x ∈ kb))) ∧ Below W.heap.size W w') := Lib.hid fun W hW =>
    ⟨hT.out.below hW, hasO_any W ob kb (hT.out.below hW).2.2.2 x hx⟩
  obtain ⟨kv, hkv⟩ : ∃ kv, (u8s x).toArray = kv := ⟨_, rfl⟩
  obtain ⟨p, hp⟩ : ∃ p, decide (x ∈ ka) = p := ⟨_, rfl⟩
  obtain ⟨q, hq⟩ : ∃ q, decide (x ∈ kb) = q := ⟨_, rfl⟩
  rw [hkv] at hk1 hs32 hw1 hA hBs ⊢
  rw [hp] at hA ⊢
  rw [hq] at hBs ⊢
  have c1 := hT.out.1
  have c2 := hT.out.2.1
  clear h hkv hp hq
  cases p
  · skip
    go_enter Try.func34, Try.ntmps34
    go_wp2_with (first
      | (refine wpList_load_row_g (by rfl) 25 _ rfl g rfl 25 kv (0, 0) _ hk1.out Try.underlying25 rfl (by rw [hs32.out]; exact hi32.out) ?_)
      | (go_at_call 16; refine hA.out.mono ?_; rintro e w5 ⟨rfl, b5⟩; have b5' := Lib.hid b5; clear b5 hA))
    go_ret
    exact ⟨rfl, hB.out.trans (b5'.out.mono hB.out.size)⟩
  · cases q
    all_goals
      go_enter Try.func34, Try.ntmps34
      go_wp2_with (first
        | (refine wpList_load_row_g (by rfl) 25 _ rfl g rfl 25 kv (0, 0) _ hk1.out Try.underlying25 rfl (by rw [hs32.out]; exact hi32.out) ?_)
        | (refine wpList_load_row_g (by rfl) 25 _ rfl g rfl 25 kv (0, 0) _ hk5.out Try.underlying25 rfl (by rw [hs32.out]; exact hi32.out) ?_)
        | (go_at_call 16; refine hA.out.mono ?_; rintro e w5 ⟨rfl, b5⟩
           have b5' := Lib.hid b5
           have hk5 := Lib.hid ((b5.block _ (Array.getElem?_eq_some_iff.1 hk1.out).1).trans hk1.out)
           have hB5 := Lib.hid (hBs.out w5 b5)
           have c2 := hB5.out.1.2.1
           clear b5 hA)
        | (go_at_call 16; refine hB5.out.2.mono ?_; rintro e w6 ⟨rfl, b6⟩; have b6' := Lib.hid b6; clear b6 hB5))
      go_ret
      have hb2 := hB.out.trans (b5'.out.mono hB.out.size)
      exact ⟨rfl, hb2.trans (b6'.out.mono hb2.size)⟩
set_option maxRecDepth 100000 in
set_option maxHeartbeats 1000000 in
theorem minus1O_any (w : World) (ga gb : Nat) (oa ob : Option (Nat × Nat)) (ka kb : List (List Nat)) (h : TwoO w ga gb oa ob ka kb) (x : List Nat) (hx : IsK x) :
    Calls Try.prog 35 #[.agg (u8s x).toArray, .pointer (some ⟨ga, 0, none⟩), .pointer (some ⟨gb, 0, none⟩)] w fun e w' => e = .returned (.bool (decide (x ∈ ka) && !decide (x ∈ kb))) ∧ Below w.heap.size w w' := by
  obtain ⟨w1, hw1⟩ : ∃ w1, w.alloc (.cells (u8s x).toArray 25) = w1 := ⟨_, rfl⟩
  have hB : Hid (Below w.heap.size w w1) := Lib.hid (by rw [← hw1]; exact (Below.refl _ _).alloc (Nat.le_refl _) _)
  have hT := Lib.hid (h.below hB.out)
  have hk1 : Hid (w1.heap[w.heap.size]? = some (.cells (u8s x).toArray 25 (0, 0))) := Lib.hid (by rw [← hw1]; exact heap_alloc_new w _)
  obtain ⟨g, hg⟩ : ∃ g, w.heap.size = g := ⟨_, rfl⟩
  rw [hg] at hk1
  have hi32 : Hid ((Try.prog.info? 25).map (·.size) = some 32) := Lib.hid (by kernel_rfl)
  have hs32 : Hid ((u8s x).toArray.size = 32) := Lib.hid (by simp [u8s, hx.1])
  have hA := Lib.hid (hasO_any w1 oa ka hT.out.2.2.1 x hx)
  have hBs : Hid (∀ W, Below w1.heap.size w1 W → TwoO W ga gb oa ob ka kb ∧ Calls Try.prog 16 #[pv ob, .agg (u8s x).toArray] W fun e w' => e = .returned (.bool (decide (x ∈ kb))) ∧ Below W.heap.size W w') := Lib.hid fun W hW =>
    ⟨hT.out.below hW, hasO_any W ob kb (hT.out.below hW).2.2.2 x hx⟩
  obtain ⟨kv, hkv⟩ : ∃ kv, (u8s x).toArray = kv := ⟨_, rfl⟩
  obtain ⟨p, hp⟩ : ∃ p, decide (x ∈ ka) = p := ⟨_, rfl⟩
  obtain ⟨q, hq⟩ : ∃ q, decide (x ∈ kb) = q := ⟨_, rfl⟩
  rw [hkv] at hk1 hs32 hw1 hA hBs ⊢
  rw [hp] at hA ⊢
  rw [hq] at hBs ⊢
  have c1 := hT.out.1
  have c2 := hT.out.2.1
  clear h hkv hp hq
  cases p
  · skip
    go_enter Try.func35, Try.ntmps35
    go_wp2_with (first
      | (refine wpList_load_row_g (by rfl) 25 _ rfl g rfl 25 kv (0, 0) _ hk1.out Try.underlying25 rfl (by rw [hs32.out]; exact hi32.out) ?_)
      | (go_at_call 16; refine hA.out.mono ?_; rintro e w5 ⟨rfl, b5⟩; have b5' := Lib.hid b5; clear b5 hA))
    go_ret
    exact ⟨rfl, hB.out.trans (b5'.out.mono hB.out.size)⟩
  · cases q
    all_goals
      go_enter Try.func35, Try.ntmps35
      go_wp2_with (first
        | (refine wpList_load_row_g (by rfl) 25 _ rfl g rfl 25 kv (0, 0) _ hk1.out Try.underlying25 rfl (by rw [hs32.out]; exact hi32.out) ?_)
        | (refine wpList_load_row_g (by rfl) 25 _ rfl g rfl 25 kv (0, 0) _ hk5.out Try.underlying25 rfl (by rw [hs32.out]; exact hi32.out) ?_)
        | (go_at_call 16; refine hA.out.mono ?_; rintro e w5 ⟨rfl, b5⟩
           have b5' := Lib.hid b5
           have hk5 := Lib.hid ((b5.block _ (Array.getElem?_eq_some_iff.1 hk1.out).1).trans hk1.out)
           have hB5 := Lib.hid (hBs.out w5 b5)
           have c2 := hB5.out.1.2.1
           clear b5 hA)
        | (go_at_call 16; refine hB5.out.2.mono ?_; rintro e w6 ⟨rfl, b6⟩; have b6' := Lib.hid b6; clear b6 hB5))
      go_ret
      have hb2 := hB.out.trans (b5'.out.mono hB.out.size)
      exact ⟨rfl, hb2.trans (b6'.out.mono hb2.size)⟩
set_option maxRecDepth 100000 in
set_option maxHeartbeats 1000000 in
theorem unionO_any (w : World) (oa ob : Option (Nat × Nat)) (ka kb : List (List Nat)) (ha : SetO w oa ka) (hb : SetO w ob kb) (hla : ka.length ≤ 2097152) (hlb : kb.length ≤ 2097152) :
    Calls Try.prog 11 #[pv oa, pv ob] w (WhichP w (takeK (unionT ka kb) kb (takeK (unionT ka kb) ka []))) := by
  have hW := Lib.hid (whichO_any w oa ob ka kb ha hb hla hlb 33 #[] (unionT ka kb) (fun W _ x _ => union1_any W x) (enters_of Try.func33 (by kernel_rfl) rfl))
  generalize takeK (unionT ka kb) kb (takeK (unionT ka kb) ka []) = R at hW ⊢
  have hfin : Hid (∀ so mo N w', SetK w' so mo N R ∧ Below w.heap.size w w' ∧ w.heap.size ≤ so ∧ w.heap.size ≤ mo ∧ N ≤ 281474976710656 → WhichP w R (.returned (.pointer (some ⟨so, 0, none⟩))) w') := Lib.hid fun so mo N w' h => ⟨so, mo, N, rfl, h⟩
  obtain ⟨Q, hQ⟩ : ∃ Q, WhichP w R = Q := ⟨_, rfl⟩
  rw [hQ] at hfin ⊢
  unfold WhichP at hW
  clear ha hb hQ
  go_enter Try.func11, Try.ntmps11
  go_wp2_with (go_at_call 32; refine hW.out.mono ?_; rintro e w5 ⟨so, mo, N, rfl, h5⟩; have hF := Lib.hid (hfin.out so mo N w5 h5); clear h5 hW)
  exact hF.out
set_option maxRecDepth 100000 in
set_option maxHeartbeats 1000000 in
theorem bothO_any (w : World) (oa ob : Option (Nat × Nat)) (ka kb : List (List Nat)) (ha : SetO w oa ka) (hb : SetO w ob kb) (hla : ka.length ≤ 2097152) (hlb : kb.length ≤ 2097152) :
    Calls Try.prog 12 #[pv oa, pv ob] w (WhichP w (takeK (bothT ka kb) kb (takeK (bothT ka kb) ka []))) := by
  obtain ⟨w1, hw1⟩ : ∃ w1, (w.alloc (.cells #[pv oa] 35)).alloc (.cells #[pv ob] 35) = w1 := ⟨_, rfl⟩
  have hB : Hid (Below w.heap.size w w1) := Lib.hid (by rw [← hw1]; exact ((Below.refl _ _).alloc (Nat.le_refl _) _).alloc (by simp) _)
  have ha1 := ha.below hB.out
  have hb1 := hb.below hB.out
  have hT : TwoO w1 w.heap.size (w.heap.size + 1) oa ob ka kb := by
    refine ⟨?_, ?_, ha1, hb1⟩
    · rw [← hw1, World.cell?_alloc_lt _ _ _ (by simp)]
      unfold World.cell?
      rw [heap_alloc_new w _]
      rfl
    · rw [← hw1]
      have := heap_alloc_new (w.alloc (.cells #[pv oa] 35)) (.cells #[pv ob] 35)
      rw [World.size_alloc] at this
      unfold World.cell?
      rw [this]
      rfl
  have hW := Lib.hid (whichO_any w1 oa ob ka kb ha1 hb1 hla hlb 34 #[.pointer (some ⟨w.heap.size, 0, none⟩), .pointer (some ⟨w.heap.size + 1, 0, none⟩)] (bothT ka kb) (fun W hW x hx => both1O_any W _ _ _ _ _ _ (hT.below hW) x hx) (enters_of Try.func34 (by kernel_rfl) rfl))
  generalize takeK (bothT ka kb) kb (takeK (bothT ka kb) ka []) = R at hW ⊢
  have hfin : Hid (∀ so mo N w', SetK w' so mo N R ∧ Below w1.heap.size w1 w' ∧ w1.heap.size ≤ so ∧ w1.heap.size ≤ mo ∧ N ≤ 281474976710656 → WhichP w R (.returned (.pointer (some ⟨so, 0, none⟩))) w') := Lib.hid fun so mo N w' h => ⟨so, mo, N, rfl, h.1, hB.out.trans (h.2.1.mono hB.out.size), Nat.le_trans hB.out.size h.2.2.1, Nat.le_trans hB.out.size h.2.2.2.1, h.2.2.2.2⟩
  obtain ⟨Q, hQ⟩ : ∃ Q, WhichP w R = Q := ⟨_, rfl⟩
  rw [hQ] at hfin ⊢
  unfold WhichP at hW
  have hw1' := Lib.hid hw1
  clear ha hb hQ ha1 hb1 hT hw1
  rcases oa with _ | ⟨sa, ma⟩ <;> rcases ob with _ | ⟨sb, mb⟩ <;> simp only [pv, Option.map_none, Option.map_some] at hw1' hW ⊢
  all_goals
    go_enter Try.func12, Try.ntmps12
    go_wp2_with (go_at_call 32; rw [hw1'.out]; refine hW.out.mono ?_; rintro e w5 ⟨so, mo, N, rfl, h5⟩; have hF := Lib.hid (hfin.out so mo N w5 h5); clear h5 hW)
    exact hF.out
set_option maxRecDepth 100000 in
set_option maxHeartbeats 1000000 in
theorem minusO_any (w : World) (oa ob : Option (Nat × Nat)) (ka kb : List (List Nat)) (ha : SetO w oa ka) (hb : SetO w ob kb) (hla : ka.length ≤ 2097152) (hlb : kb.length ≤ 2097152) :
    Calls Try.prog 13 #[pv oa, pv ob] w (WhichP w (takeK (minusT ka kb) kb (takeK (minusT ka kb) ka []))) := by
  obtain ⟨w1, hw1⟩ : ∃ w1, (w.alloc (.cells #[pv oa] 35)).alloc (.cells #[pv ob] 35) = w1 := ⟨_, rfl⟩
  have hB : Hid (Below w.heap.size w w1) := Lib.hid (by rw [← hw1]; exact ((Below.refl _ _).alloc (Nat.le_refl _) _).alloc (by simp) _)
  have ha1 := ha.below hB.out
  have hb1 := hb.below hB.out
  have hT : TwoO w1 w.heap.size (w.heap.size + 1) oa ob ka kb := by
    refine ⟨?_, ?_, ha1, hb1⟩
    · rw [← hw1, World.cell?_alloc_lt _ _ _ (by simp)]
      unfold World.cell?
      rw [heap_alloc_new w _]
      rfl
    · rw [← hw1]
      have := heap_alloc_new (w.alloc (.cells #[pv oa] 35)) (.cells #[pv ob] 35)
      rw [World.size_alloc] at this
      unfold World.cell?
      rw [this]
      rfl
  have hW := Lib.hid (whichO_any w1 oa ob ka kb ha1 hb1 hla hlb 35 #[.pointer (some ⟨w.heap.size, 0, none⟩), .pointer (some ⟨w.heap.size + 1, 0, none⟩)] (minusT ka kb) (fun W hW x hx => minus1O_any W _ _ _ _ _ _ (hT.below hW) x hx) (enters_of Try.func35 (by kernel_rfl) rfl))
  generalize takeK (minusT ka kb) kb (takeK (minusT ka kb) ka []) = R at hW ⊢
  have hfin : Hid (∀ so mo N w', SetK w' so mo N R ∧ Below w1.heap.size w1 w' ∧ w1.heap.size ≤ so ∧ w1.heap.size ≤ mo ∧ N ≤ 281474976710656 → WhichP w R (.returned (.pointer (some ⟨so, 0, none⟩))) w') := Lib.hid fun so mo N w' h => ⟨so, mo, N, rfl, h.1, hB.out.trans (h.2.1.mono hB.out.size), Nat.le_trans hB.out.size h.2.2.1, Nat.le_trans hB.out.size h.2.2.2.1, h.2.2.2.2⟩
  obtain ⟨Q, hQ⟩ : ∃ Q, WhichP w R = Q := ⟨_, rfl⟩
  rw [hQ] at hfin ⊢
  unfold WhichP at hW
  have hw1' := Lib.hid hw1
  clear ha hb hQ ha1 hb1 hT hw1
  rcases oa with _ | ⟨sa, ma⟩ <;> rcases ob with _ | ⟨sb, mb⟩ <;> simp only [pv, Option.map_none, Option.map_some] at hw1' hW ⊢
  all_goals
    go_enter Try.func13, Try.ntmps13
    go_wp2_with (go_at_call 32; rw [hw1'.out]; refine hW.out.mono ?_; rintro e w5 ⟨so, mo, N, rfl, h5⟩; have hF := Lib.hid (hfin.out so mo N w5 h5); clear h5 hW)
    exact hF.out
end Go.Proofs.Ytlolnpilpdkbkaa
