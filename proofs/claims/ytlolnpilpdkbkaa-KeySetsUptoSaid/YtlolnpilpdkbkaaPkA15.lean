/- Union, Both, Minus. What KeyAlgebra asks: plain. works: a set of one key. -/
import Derived.Test.YtlolnpilpdkbkaaPkA10
import Derived.Test.YtlolnpilpdkbkaaPkA14
import Derived.Test.YtlolnpilpdkbkaaPkA3
import Derived.Test.YtlolnpilpdkbkaaPkA11
import Derived.Great.Walk

namespace Go.Proofs.Ytlolnpilpdkbkaa
open Go.RowKit Go.Maps Go.Shelf
set_option linter.unusedSimpArgs false
set_option linter.unusedVariables false

set_option maxRecDepth 100000 in
theorem union1_any (w : World) (x : List Nat) : Calls Try.prog 33 #[.agg (u8s x).toArray] w fun e w' => e = .returned (.bool true) ∧ Below w.heap.size w w' := by
  have hB : Below w.heap.size w (w.alloc (.cells (u8s x).toArray 25)) := (Below.refl _ _).alloc (Nat.le_refl _) _
  have hB' := Lib.hid hB
  obtain ⟨kv, hkv⟩ : ∃ kv, (u8s x).toArray = kv := ⟨_, rfl⟩
  rw [hkv] at hB' ⊢
  clear hB hkv
  go_enter Try.func33, Try.ntmps33
  go_wp2_with fail
  go_ret
  exact ⟨rfl, hB'.out⟩
/-- The two sets' variables. -/
def TwoAt (w : World) (ga gb sa ma na sb mb nb : Nat) (ka kb : List (List Nat)) : Prop :=
  w.cell? ⟨ga, 0, none⟩ = some (.pointer (some ⟨sa, 0, none⟩)) ∧ w.cell? ⟨gb, 0, none⟩ = some (.pointer (some ⟨sb, 0, none⟩)) ∧ SetK w sa ma na ka ∧ SetK w sb mb nb kb
theorem TwoAt.below {w w' : World} {ga gb sa ma na sb mb nb : Nat} {ka kb : List (List Nat)} (h : TwoAt w ga gb sa ma na sb mb nb ka kb) (hb : Below w.heap.size w w') : TwoAt w' ga gb sa ma na sb mb nb ka kb := by
  obtain ⟨h1, h2, h3, h4⟩ := h
  exact ⟨(hb.cell (p := ⟨ga, 0, none⟩) (World.block_lt_of_cell? _ _ h1)).trans h1, (hb.cell (p := ⟨gb, 0, none⟩) (World.block_lt_of_cell? _ _ h2)).trans h2, h3.keep (hb.block _ h3.lts.1) (hb.block _ h3.lts.2), h4.keep (hb.block _ h4.lts.1) (hb.block _ h4.lts.2)⟩
set_option maxRecDepth 100000 in
set_option maxHeartbeats 1000000 in
theorem both1_any (w : World) (ga gb sa ma na sb mb nb : Nat) (ka kb : List (List Nat)) (h : TwoAt w ga gb sa ma na sb mb nb ka kb) (x : List Nat) (hx : IsK x) :
    Calls Try.prog 34 #[.agg (u8s x).toArray, .pointer (some ⟨ga, 0, none⟩), .pointer (some ⟨gb, 0, none⟩)] w fun e w' => e = .returned (.bool (decide (x ∈ ka) && decide (x ∈ kb))) ∧ Below w.heap.size w w' := by
  obtain ⟨w1, hw1⟩ : ∃ w1, w.alloc (.cells (u8s x).toArray 25) = w1 := ⟨_, rfl⟩
  have hB : Hid (Below w.heap.size w w1) := Lib.hid (by rw [← hw1]; exact (Below.refl _ _).alloc (Nat.le_refl _) _)
  have hT := Lib.hid (h.below hB.out)
  have hk1 : Hid (w1.heap[w.heap.size]? = some (.cells (u8s x).toArray 25 (0, 0))) := Lib.hid (by rw [← hw1]; exact heap_alloc_new w _)
  obtain ⟨g, hg⟩ : ∃ g, w.heap.size = g := ⟨_, rfl⟩
  rw [hg] at hk1
  have hi32 : Hid ((Try.prog.info? 25).map (·.size) = some 32) := Lib.hid (by kernel_rfl)
  have hs32 : Hid ((u8s x).toArray.size = 32) := Lib.hid (by simp [u8s, hx.1])
  have hA := Lib.hid (hasK_any w1 sa ma na ka hT.out.2.2.1 x hx)
  have hBs : Hid (∀ W, Below w1.heap.size w1 W → TwoAt W ga gb sa ma na sb mb nb ka kb ∧ Calls Try.prog 16 #[.pointer (some ⟨sb, 0, none⟩), .agg (u8s x).toArray] W fun e w' => e = .returned (.bool (decide (x ∈ kb))) ∧ Below W.heap.size W w') := Lib.hid fun W hW =>
    ⟨hT.out.below hW, hasK_any W sb mb nb kb (hT.out.below hW).2.2.2 x hx⟩
  obtain ⟨kv, hkv⟩ : ∃ kv, (u8s x).toArray = kv := ⟨_, rfl⟩
  obtain ⟨p, hp⟩ : ∃ p, decide (x ∈ ka) = p := ⟨_, rfl⟩
  obtain ⟨q, hq⟩ : ∃ q, decide (x ∈ kb) = q := ⟨_, rfl⟩
  rw [hkv] at hk1 hs32 hw1 hA hBs ⊢
  rw [hp] at hA ⊢
  rw [hq] at hBs ⊢
  have c1 := hT.out.1
  have c2 := hT.out.2.1
  clear h hkv hp hq
  cases p
  · skip
    go_enter Try.func34, Try.ntmps34
    go_wp2_with (first
      | (refine wpList_load_row_g (by rfl) 25 _ rfl g rfl 25 kv (0, 0) _ hk1.out Try.underlying25 rfl (by rw [hs32.out]; exact hi32.out) ?_)
      | (go_at_call 16; refine hA.out.mono ?_; rintro e w5 ⟨rfl, b5⟩; have b5' := Lib.hid b5; clear b5 hA))
    go_ret
    exact ⟨rfl, hB.out.trans (b5'.out.mono hB.out.size)⟩
  · cases q
    all_goals
      go_enter Try.func34, Try.ntmps34
      go_wp2_with (first
        | (refine wpList_load_row_g (by rfl) 25 _ rfl g rfl 25 kv (0, 0) _ hk1.out Try.underlying25 rfl (by rw [hs32.out]; exact hi32.out) ?_)
        | (refine wpList_load_row_g (by rfl) 25 _ rfl g rfl 25 kv (0, 0) _ hk5.out Try.underlying25 rfl (by rw [hs32.out]; exact hi32.out) ?_)
        | (go_at_call 16; refine hA.out.mono ?_; rintro e w5 ⟨rfl, b5⟩
           have b5' := Lib.hid b5
           have hk5 := Lib.hid ((b5.block _ (Array.getElem?_eq_some_iff.1 hk1.out).1).trans hk1.out)
           have hB5 := Lib.hid (hBs.out w5 b5)
           have c2 := hB5.out.1.2.1
           clear b5 hA)
        | (go_at_call 16; refine hB5.out.2.mono ?_; rintro e w6 ⟨rfl, b6⟩; have b6' := Lib.hid b6; clear b6 hB5))
      go_ret
      have hb2 := hB.out.trans (b5'.out.mono hB.out.size)
      exact ⟨rfl, hb2.trans (b6'.out.mono hb2.size)⟩
set_option maxRecDepth 100000 in
set_option maxHeartbeats 1000000 in
theorem minus1_any (w : World) (ga gb sa ma na sb mb nb : Nat) (ka kb : List (List Nat)) (h : TwoAt w ga gb sa ma na sb mb nb ka kb) (x : List Nat) (hx : IsK x) :
    Calls Try.prog 35 #[.agg (u8s x).toArray, .pointer (some ⟨ga, 0, none⟩), .pointer (some ⟨gb, 0, none⟩)] w fun e w' => e = .returned (.bool (decide (x ∈ ka) && !decide (x ∈ kb))) ∧ Below w.heap.size w w' := by
  obtain ⟨w1, hw1⟩ : ∃ w1, w.alloc (.cells (u8s x).toArray 25) = w1 := ⟨_, rfl⟩
  have hB : Hid (Below w.heap.size w w1) := Lib.hid (by rw [← hw1]; exact (Below.refl _ _).alloc (Nat.le_refl _) _)
  have hT := Lib.hid (h.below hB.out)
  have hk1 : Hid (w1.heap[w.heap.size]? = some (.cells (u8s x).toArray 25 (0, 0))) := Lib.hid (by rw [← hw1]; exact heap_alloc_new w _)
  obtain ⟨g, hg⟩ : ∃ g, w.heap.size = g := ⟨_, rfl⟩
  rw [hg] at hk1
  have hi32 : Hid ((Try.prog.info? 25).map (·.size) = some 32) := Lib.hid (by kernel_rfl)
  have hs32 : Hid ((u8s x).toArray.size = 32) := Lib.hid (by simp [u8s, hx.1])
  have hA := Lib.hid (hasK_any w1 sa ma na ka hT.out.2.2.1 x hx)
  have hBs : Hid (∀ W, Below w1.heap.size w1 W → TwoAt W ga gb sa ma na sb mb nb ka kb ∧ Calls Try.prog 16 #[.pointer (some ⟨sb, 0, none⟩), .agg (u8s x).toArray] W fun e w' => e = .returned (.bool (decide (x ∈ kb))) ∧ Below W.heap.size W w') := Lib.hid fun W hW =>
    ⟨hT.out.below hW, hasK_any W sb mb nb kb (hT.out.below hW).2.2.2 x hx⟩
  obtain ⟨kv, hkv⟩ : ∃ kv, (u8s x).toArray = kv := ⟨_, rfl⟩
  obtain ⟨p, hp⟩ : ∃ p, decide (x ∈ ka) = p := ⟨_, rfl⟩
  obtain ⟨q, hq⟩ : ∃ q, decide (x ∈ kb) = q := ⟨_, rfl⟩
  rw [hkv] at hk1 hs32 hw1 hA hBs ⊢
  rw [hp] at hA ⊢
  rw [hq] at hBs ⊢
  have c1 := hT.out.1
  have c2 := hT.out.2.1
  clear h hkv hp hq
  cases p
  · skip
    go_enter Try.func35, Try.ntmps35
    go_wp2_with (first
      | (refine wpList_load_row_g (by rfl) 25 _ rfl g rfl 25 kv (0, 0) _ hk1.out Try.underlying25 rfl (by rw [hs32.out]; exact hi32.out) ?_)
      | (go_at_call 16; refine hA.out.mono ?_; rintro e w5 ⟨rfl, b5⟩; have b5' := Lib.hid b5; clear b5 hA))
    go_ret
    exact ⟨rfl, hB.out.trans (b5'.out.mono hB.out.size)⟩
  · cases q
    all_goals
      go_enter Try.func35, Try.ntmps35
      go_wp2_with (first
        | (refine wpList_load_row_g (by rfl) 25 _ rfl g rfl 25 kv (0, 0) _ hk1.out Try.underlying25 rfl (by rw [hs32.out]; exact hi32.out) ?_)
        | (refine wpList_load_row_g (by rfl) 25 _ rfl g rfl 25 kv (0, 0) _ hk5.out Try.underlying25 rfl (by rw [hs32.out]; exact hi32.out) ?_)
        | (go_at_call 16; refine hA.out.mono ?_; rintro e w5 ⟨rfl, b5⟩
           have b5' := Lib.hid b5
           have hk5 := Lib.hid ((b5.block _ (Array.getElem?_eq_some_iff.1 hk1.out).1).trans hk1.out)
           have hB5 := Lib.hid (hBs.out w5 b5)
           have c2 := hB5.out.1.2.1
           clear b5 hA)
        | (go_at_call 16; refine hB5.out.2.mono ?_; rintro e w6 ⟨rfl, b6⟩; have b6' := Lib.hid b6; clear b6 hB5))
      go_ret
      have hb2 := hB.out.trans (b5'.out.mono hB.out.size)
      exact ⟨rfl, hb2.trans (b6'.out.mono hb2.size)⟩
def unionT (ka kb : List (List Nat)) : List Nat → Bool := fun _ => true
set_option maxRecDepth 100000 in
set_option maxHeartbeats 1000000 in
theorem union_any (w : World) (sa ma na sb mb nb : Nat) (ka kb : List (List Nat)) (ha : SetK w sa ma na ka) (hb : SetK w sb mb nb kb) (hla : ka.length ≤ 2097152) (hlb : kb.length ≤ 2097152) :
    Calls Try.prog 11 #[.pointer (some ⟨sa, 0, none⟩), .pointer (some ⟨sb, 0, none⟩)] w (WhichP w (takeK (unionT ka kb) kb (takeK (unionT ka kb) ka []))) := by
  have hW := Lib.hid (which_any w sa ma na sb mb nb ka kb ha hb hla hlb 33 #[] (unionT ka kb) (fun W _ x _ => union1_any W x) (enters_of Try.func33 (by kernel_rfl) rfl))
  generalize takeK (unionT ka kb) kb (takeK (unionT ka kb) ka []) = R at hW ⊢
  have hfin : Hid (∀ so mo N w', SetK w' so mo N R ∧ Below w.heap.size w w' ∧ w.heap.size ≤ so ∧ w.heap.size ≤ mo ∧ N ≤ 281474976710656 → WhichP w R (.returned (.pointer (some ⟨so, 0, none⟩))) w') := Lib.hid fun so mo N w' h => ⟨so, mo, N, rfl, h⟩
  obtain ⟨Q, hQ⟩ : ∃ Q, WhichP w R = Q := ⟨_, rfl⟩
  rw [hQ] at hfin ⊢
  unfold WhichP at hW
  clear ha hb hQ
  go_enter Try.func11, Try.ntmps11
  go_wp2_with (go_at_call 32; refine hW.out.mono ?_; rintro e w5 ⟨so, mo, N, rfl, h5⟩; have hF := Lib.hid (hfin.out so mo N w5 h5); clear h5 hW)
  exact hF.out
def bothT (ka kb : List (List Nat)) : List Nat → Bool := fun x => decide (x ∈ ka) && decide (x ∈ kb)
set_option maxRecDepth 100000 in
set_option maxHeartbeats 1000000 in
theorem both_any (w : World) (sa ma na sb mb nb : Nat) (ka kb : List (List Nat)) (ha : SetK w sa ma na ka) (hb : SetK w sb mb nb kb) (hla : ka.length ≤ 2097152) (hlb : kb.length ≤ 2097152) :
    Calls Try.prog 12 #[.pointer (some ⟨sa, 0, none⟩), .pointer (some ⟨sb, 0, none⟩)] w (WhichP w (takeK (bothT ka kb) kb (takeK (bothT ka kb) ka []))) := by
  obtain ⟨w1, hw1⟩ : ∃ w1, (w.alloc (.cells #[.pointer (some ⟨sa, 0, none⟩)] 35)).alloc (.cells #[.pointer (some ⟨sb, 0, none⟩)] 35) = w1 := ⟨_, rfl⟩
  have hB : Hid (Below w.heap.size w w1) := Lib.hid (by rw [← hw1]; exact ((Below.refl _ _).alloc (Nat.le_refl _) _).alloc (by simp) _)
  have la := ha.lts
  have lb := hb.lts
  have ha1 := ha.keep (hB.out.block _ la.1) (hB.out.block _ la.2)
  have hb1 := hb.keep (hB.out.block _ lb.1) (hB.out.block _ lb.2)
  have hT : TwoAt w1 w.heap.size (w.heap.size + 1) sa ma na sb mb nb ka kb := by
    refine ⟨?_, ?_, ha1, hb1⟩
    · rw [← hw1, World.cell?_alloc_lt _ _ _ (by simp)]
      unfold World.cell?
      rw [heap_alloc_new w _]
      rfl
    · rw [← hw1]
      have := heap_alloc_new (w.alloc (.cells #[.pointer (some ⟨sa, 0, none⟩)] 35)) (.cells #[.pointer (some ⟨sb, 0, none⟩)] 35)
      rw [World.size_alloc] at this
      unfold World.cell?
      rw [this]
      rfl
  have hW := Lib.hid (which_any w1 sa ma na sb mb nb ka kb ha1 hb1 hla hlb 34 #[.pointer (some ⟨w.heap.size, 0, none⟩), .pointer (some ⟨w.heap.size + 1, 0, none⟩)] (bothT ka kb) (fun W hW x hx => both1_any W _ _ _ _ _ _ _ _ _ _ (hT.below hW) x hx) (enters_of Try.func34 (by kernel_rfl) rfl))
  generalize takeK (bothT ka kb) kb (takeK (bothT ka kb) ka []) = R at hW ⊢
  have hfin : Hid (∀ so mo N w', SetK w' so mo N R ∧ Below w1.heap.size w1 w' ∧ w1.heap.size ≤ so ∧ w1.heap.size ≤ mo ∧ N ≤ 281474976710656 → WhichP w R (.returned (.pointer (some ⟨so, 0, none⟩))) w') := Lib.hid fun so mo N w' h => ⟨so, mo, N, rfl, h.1, hB.out.trans (h.2.1.mono hB.out.size), Nat.le_trans hB.out.size h.2.2.1, Nat.le_trans hB.out.size h.2.2.2.1, h.2.2.2.2⟩
  obtain ⟨Q, hQ⟩ : ∃ Q, WhichP w R = Q := ⟨_, rfl⟩
  rw [hQ] at hfin ⊢
  unfold WhichP at hW
  have hw1' := Lib.hid hw1
  clear ha hb hQ ha1 hb1 la lb hT hw1
  go_enter Try.func12, Try.ntmps12
  go_wp2_with (go_at_call 32; rw [hw1'.out]; refine hW.out.mono ?_; rintro e w5 ⟨so, mo, N, rfl, h5⟩; have hF := Lib.hid (hfin.out so mo N w5 h5); clear h5 hW)
  exact hF.out
def minusT (ka kb : List (List Nat)) : List Nat → Bool := fun x => decide (x ∈ ka) && !decide (x ∈ kb)
set_option maxRecDepth 100000 in
set_option maxHeartbeats 1000000 in
theorem minus_any (w : World) (sa ma na sb mb nb : Nat) (ka kb : List (List Nat)) (ha : SetK w sa ma na ka) (hb : SetK w sb mb nb kb) (hla : ka.length ≤ 2097152) (hlb : kb.length ≤ 2097152) :
    Calls Try.prog 13 #[.pointer (some ⟨sa, 0, none⟩), .pointer (some ⟨sb, 0, none⟩)] w (WhichP w (takeK (minusT ka kb) kb (takeK (minusT ka kb) ka []))) := by
  obtain ⟨w1, hw1⟩ : ∃ w1, (w.alloc (.cells #[.pointer (some ⟨sa, 0, none⟩)] 35)).alloc (.cells #[.pointer (some ⟨sb, 0, none⟩)] 35) = w1 := ⟨_, rfl⟩
  have hB : Hid (Below w.heap.size w w1) := Lib.hid (by rw [← hw1]; exact ((Below.refl _ _).alloc (Nat.le_refl _) _).alloc (by simp) _)
  have la := ha.lts
  have lb := hb.lts
  have ha1 := ha.keep (hB.out.block _ la.1) (hB.out.block _ la.2)
  have hb1 := hb.keep (hB.out.block _ lb.1) (hB.out.block _ lb.2)
  have hT : TwoAt w1 w.heap.size (w.heap.size + 1) sa ma na sb mb nb ka kb := by
    refine ⟨?_, ?_, ha1, hb1⟩
    · rw [← hw1, World.cell?_alloc_lt _ _ _ (by simp)]
      unfold World.cell?
      rw [heap_alloc_new w _]
      rfl
    · rw [← hw1]
      have := heap_alloc_new (w.alloc (.cells #[.pointer (some ⟨sa, 0, none⟩)] 35)) (.cells #[.pointer (some ⟨sb, 0, none⟩)] 35)
      rw [World.size_alloc] at this
      unfold World.cell?
      rw [this]
      rfl
  have hW := Lib.hid (which_any w1 sa ma na sb mb nb ka kb ha1 hb1 hla hlb 35 #[.pointer (some ⟨w.heap.size, 0, none⟩), .pointer (some ⟨w.heap.size + 1, 0, none⟩)] (minusT ka kb) (fun W hW x hx => minus1_any W _ _ _ _ _ _ _ _ _ _ (hT.below hW) x hx) (enters_of Try.func35 (by kernel_rfl) rfl))
  generalize takeK (minusT ka kb) kb (takeK (minusT ka kb) ka []) = R at hW ⊢
  have hfin : Hid (∀ so mo N w', SetK w' so mo N R ∧ Below w1.heap.size w1 w' ∧ w1.heap.size ≤ so ∧ w1.heap.size ≤ mo ∧ N ≤ 281474976710656 → WhichP w R (.returned (.pointer (some ⟨so, 0, none⟩))) w') := Lib.hid fun so mo N w' h => ⟨so, mo, N, rfl, h.1, hB.out.trans (h.2.1.mono hB.out.size), Nat.le_trans hB.out.size h.2.2.1, Nat.le_trans hB.out.size h.2.2.2.1, h.2.2.2.2⟩
  obtain ⟨Q, hQ⟩ : ∃ Q, WhichP w R = Q := ⟨_, rfl⟩
  rw [hQ] at hfin ⊢
  unfold WhichP at hW
  have hw1' := Lib.hid hw1
  clear ha hb hQ ha1 hb1 la lb hT hw1
  go_enter Try.func13, Try.ntmps13
  go_wp2_with (go_at_call 32; rw [hw1'.out]; refine hW.out.mono ?_; rintro e w5 ⟨so, mo, N, rfl, h5⟩; have hF := Lib.hid (hfin.out so mo N w5 h5); clear h5 hW)
  exact hF.out
end Go.Proofs.Ytlolnpilpdkbkaa

namespace Go.Proofs.Ytlolnpilpdkbkaa
open Go.RowKit Go.Maps
set_option linter.unusedSimpArgs false
set_option linter.unusedVariables false

theorem lenK_any (w : World) (s m n : Nat) (ks : List (List Nat)) (h : SetK w s m n ks) :
    Calls Try.prog 14 #[.pointer (some ⟨s, 0, none⟩)] w fun e w' => e = .returned (.int .i64 (ks.length : Int)) ∧ w' = w := by
  obtain ⟨D, h1, h2⟩ := h
  have := setLen_any w s m n D h1
  rw [h2.size] at this
  exact this
theorem cmpN_any (w : World) (a b : List Nat) (ha : IsK a) (hb : IsK b) :
    Calls Try.prog 9 #[.agg (u8s a).toArray, .agg (u8s b).toArray] w fun e w' => e = .returned (.int .i64 (cmpK a b)) ∧ Below w.heap.size w w' := by
  refine (compareX_any w a b ha.1 hb.1 ha.2 hb.2).mono ?_
  rintro e w' ⟨rfl, q, rfl⟩
  exact ⟨rfl, below_drewN (((Below.refl _ _).alloc (Nat.le_refl _) _).alloc (by simp) _) q⟩
theorem cmp_pm : ∀ (a b : List UInt8), Lib.compareBytes a b = -1 ∨ Lib.compareBytes a b = 0 ∨ Lib.compareBytes a b = 1
  | [], [] => by simp [Lib.compareBytes]
  | [], _ :: _ => by simp [Lib.compareBytes]
  | _ :: _, [] => by simp [Lib.compareBytes]
  | x :: a, y :: b => by
    have := cmp_pm a b
    unfold Lib.compareBytes
    split
    · simp
    · split
      · simp
      · exact this
theorem cmpK_neg {a b : List Nat} (h : cmpK a b < 0) : cmpK a b = -1 := by
  have := cmp_pm (b8 a) (b8 b)
  unfold cmpK at h ⊢
  omega
theorem mem_takeK {t : List Nat → Bool} {pre ks : List (List Nat)} {z : List Nat} : z ∈ takeK t pre ks ↔ (z ∈ pre ∧ t z = true) ∨ z ∈ ks := by
  unfold takeK
  rw [mem_insAll, List.mem_filter]
theorem takeK_rise {t : List Nat → Bool} {pre ks : List (List Nat)} (h : ∀ x ∈ pre, IsK x) (hk : Rise32 ks) : Rise32 (takeK t pre ks) := Rise32.insAll (fun x hx => h x (List.mem_filter.1 hx).1) hk
theorem len_of_perm {a b c d : List (List Nat)} (ha : Rise32 a) (hb : Rise32 b) (hc : Rise32 c) (hd : Rise32 d) (h : ∀ z, (if z ∈ a then 1 else 0) + (if z ∈ b then 1 else 0) = ((if z ∈ c then 1 else 0) + (if z ∈ d then 1 else 0) : Nat)) :
    a.length + b.length = c.length + d.length := by
  have : (a ++ b).Perm (c ++ d) := List.perm_iff_count.2 fun z => by
    rw [List.count_append, List.count_append, (rise_nodup ha).count, (rise_nodup hb).count, (rise_nodup hc).count, (rise_nodup hd).count]
    exact h z
  have := this.length_eq
  simpa using this
/-- The sets of KeyAlgebra. -/
structure AlgP (xs ys KA KB U V M : List (List Nat)) : Prop where
  ra : Rise32 KA
  rb : Rise32 KB
  ru : Rise32 U
  rv : Rise32 V
  rm : Rise32 M
  ma : ∀ z, z ∈ KA ↔ z ∈ xs
  mb : ∀ z, z ∈ KB ↔ z ∈ ys
  mu : ∀ z, z ∈ U ↔ z ∈ KA ∨ z ∈ KB
  mv : ∀ z, z ∈ V ↔ z ∈ KA ∧ z ∈ KB
  mm : ∀ z, z ∈ M ↔ z ∈ KA ∧ z ∉ KB
theorem algP (xs ys : List (List Nat)) (hx : ∀ x ∈ xs, IsK x) (hy : ∀ y ∈ ys, IsK y) : AlgP xs ys (insAll xs []) (insAll ys [])
    (takeK (unionT (insAll xs []) (insAll ys [])) (insAll ys []) (takeK (unionT (insAll xs []) (insAll ys [])) (insAll xs []) []))
    (takeK (bothT (insAll xs []) (insAll ys [])) (insAll ys []) (takeK (bothT (insAll xs []) (insAll ys [])) (insAll xs []) []))
    (takeK (minusT (insAll xs []) (insAll ys [])) (insAll ys []) (takeK (minusT (insAll xs []) (insAll ys [])) (insAll xs []) [])) := by
  have ra : Rise32 (insAll xs []) := Rise32.insAll hx Rise32.nil
  have rb : Rise32 (insAll ys []) := Rise32.insAll hy Rise32.nil
  have ma : ∀ z, z ∈ insAll xs [] ↔ z ∈ xs := fun z => by rw [mem_insAll]; simp
  have mb : ∀ z, z ∈ insAll ys [] ↔ z ∈ ys := fun z => by rw [mem_insAll]; simp
  generalize insAll xs [] = KA at *
  generalize insAll ys [] = KB at *
  refine ⟨ra, rb, takeK_rise rb.ok (takeK_rise ra.ok Rise32.nil), takeK_rise rb.ok (takeK_rise ra.ok Rise32.nil), takeK_rise rb.ok (takeK_rise ra.ok Rise32.nil), ma, mb, fun z => ?_, fun z => ?_, fun z => ?_⟩
  · rw [mem_takeK, mem_takeK]
    simp [unionT]
    exact Or.comm
  · rw [mem_takeK, mem_takeK]
    simp [bothT]
  · rw [mem_takeK, mem_takeK]
    simp [minusT]
section
variable {xs ys KA KB U V M : List (List Nat)}
theorem AlgP.uv (h : AlgP xs ys KA KB U V M) : U.length + V.length = KA.length + KB.length := len_of_perm h.ru h.rv h.ra h.rb fun z => by
  by_cases h1 : z ∈ KA <;> by_cases h2 : z ∈ KB <;> simp [h.mu, h.mv, h1, h2]
theorem AlgP.mv' (h : AlgP xs ys KA KB U V M) : M.length + V.length = KA.length := by
  have := len_of_perm h.rm h.rv h.ra Rise32.nil fun z => by
    by_cases h1 : z ∈ KA <;> by_cases h2 : z ∈ KB <;> simp [h.mm, h.mv, h1, h2]
  simpa using this
theorem len_insAll : ∀ (xs ks : List (List Nat)), (insAll xs ks).length ≤ xs.length + ks.length
  | [], ks => by simp [insAll]
  | x :: xs, ks => by
    have h1 := len_insAll xs (insK x ks)
    have h2 : (insK x ks).length ≤ ks.length + 1 := by
      have : ∀ l : List (List Nat), (insK x l).length ≤ l.length + 1 := by
        intro l
        induction l with
        | nil => simp [insK]
        | cons y l ih =>
          unfold insK
          split
          · simp
          · split <;> simp <;> omega
      exact this ks
    simp only [insAll, List.foldl_cons, List.length_cons] at h1 ⊢
    omega
end
/-- What Next tells behind the i-th key of a rising list. -/
theorem next_at {ks : List (List Nat)} (hr : Rise32 ks) {i : Nat} {x : List Nat} (hi : ks[i]? = some x) : ks.find? (passK false x) = ks[i + 1]? := by
  induction ks generalizing i with
  | nil => simp at hi
  | cons y ks ih =>
    obtain ⟨h1, h2⟩ := List.pairwise_cons.1 hr.up
    cases i with
    | zero =>
      simp only [List.getElem?_cons_zero, Option.some.injEq] at hi
      subst hi
      have hp : passK false y y = false := by simp [passK, cmpK_self]
      rw [List.find?_cons_of_neg (by rw [hp]; simp)]
      cases ks with
      | nil => rfl
      | cons z ks =>
        have := h1 z (by simp)
        rw [List.find?_cons_of_pos (by
          have h3 := cmpK_swap y z
          simp [passK]
          omega)]
        rfl
    | succ i =>
      have hx : x ∈ ks := List.mem_of_getElem? (by simpa using hi)
      have := h1 x hx
      rw [List.find?_cons_of_neg (by simp [passK]; omega), ih hr.tail (by simpa using hi)]
      rfl
theorem next_any0 {ks : List (List Nat)} (af : List Nat) : ks.find? (passK true af) = ks[0]? := by
  cases ks with
  | nil => rfl
  | cons y ks => rw [List.find?_cons_of_pos (by simp [passK])]; rfl
theorem rise_lt {ks : List (List Nat)} (hr : Rise32 ks) {i : Nat} {x y : List Nat} (h1 : ks[i]? = some x) (h2 : ks[i + 1]? = some y) : cmpK x y = -1 := by
  obtain ⟨l1, e1⟩ := List.getElem?_eq_some_iff.1 h1
  obtain ⟨l2, e2⟩ := List.getElem?_eq_some_iff.1 h2
  have := List.pairwise_iff_getElem.1 hr.up i (i + 1) l1 l2 (by omega)
  rw [e1, e2] at this
  exact cmpK_neg this
end Go.Proofs.Ytlolnpilpdkbkaa

namespace Go.Proofs.Ytlolnpilpdkbkaa
open Go.RowKit Go.Maps
set_option linter.unusedSimpArgs false
set_option linter.unusedVariables false

def k1L : List Nat := 1 :: zeros 31
def k2L : List Nat := 2 :: zeros 31
theorem buildK1 (w : World) : (Instr.build 25 #[(0, .int .u8 1)]).run Try.prog w = .ok (.agg (u8s k1L).toArray) w := run_build w _ _ _ (by kernel_rfl)
theorem buildK2 (w : World) : (Instr.build 25 #[(0, .int .u8 2)]).run Try.prog w = .ok (.agg (u8s k2L).toArray) w := run_build w _ _ _ (by kernel_rfl)
theorem built_one : Try.prog.builtSlice 25 1 [(0, .agg (u8s k1L).toArray)] = some (u8s k1L).toArray := by kernel_rfl
theorem keys_some : (keyOf Try.prog 25 (.agg (u8s k1L).toArray)).isSome = true ∧ (keyOf Try.prog 25 (.agg (u8s k2L).toArray)).isSome = true := ⟨by kernel_rfl, by kernel_rfl⟩
theorem hex_k1 : (hexL k1L).length = 64 ∧ (hexL k1L)[1]? = some 49 := ⟨by kernel_rfl, by kernel_rfl⟩
theorem works_keys : ∃ l1 l2, keyOf Try.prog 25 (.agg (u8s k1L).toArray) = some l1 ∧ keyOf Try.prog 25 (.agg (u8s k2L).toArray) = some l2 ∧
    Maps.size (setOf (H := Unit) (.agg []) [l1]) = 1 ∧ Maps.has (setOf (H := Unit) (.agg []) [l1]) l1 = true ∧ Maps.has (setOf (H := Unit) (.agg []) [l1]) l2 = false := by
  obtain ⟨l1, h1⟩ := Option.isSome_iff_exists.1 keys_some.1
  obtain ⟨l2, h2⟩ := Option.isSome_iff_exists.1 keys_some.2
  have hk : ∀ x ∈ [l1], WideAt.IsKeyLit x := by
    intro x hx
    simp at hx
    subst hx
    exact lawK.key h1
  have hne : l1 ≠ l2 := by
    intro e
    rw [← e] at h2
    have := lawK.inj h1 h2
    simp [k1L, k2L, u8s] at this
  refine ⟨l1, l2, h1, h2, ?_, ?_, ?_⟩
  · rw [size_setOf _ _ hk]; simp [addKey]
  · rw [has_setOf _ _ _ hk]; simp [WideAt.sameKey_self (hk l1 (by simp))]
  · rw [has_setOf _ _ _ hk]; simp [sameKey_ne hne]
theorem index_k1 (W : World) : (Instr.index 9 (.string ⟨(hexL k1L).toArray⟩) (.int .i64 1)).run Try.prog W = .ok (.int .u8 49) W := by kernel_rfl
theorem keysAt_one (w : World) {l : Lit} (h : keyOf Try.prog 25 (.agg (u8s k1L).toArray) = some l) : KeysAt (w.alloc (.cells (u8s k1L).toArray 25)) (some ⟨w.heap.size, 0, none⟩) [l] := by
  intro k l' hk
  have hk0 : k = 0 := by
    have := (List.getElem?_eq_some_iff.1 hk).1
    simp at this
    exact this
  subst hk0
  simp at hk
  subst hk
  refine ⟨_, _, k1L, rfl, by simp, by kernel_rfl, ?_, h⟩
  intro j v hj
  rw [show 0 + 0 * 32 + j = j by omega, cell_of_row _ _ j _ _ _ (heap_alloc_new w _)]
  simpa using hj
set_option maxRecDepth 100000 in
set_option maxHeartbeats 4000000 in
theorem works_any (w : World) : Calls Try.prog 20 #[] w fun e w' => e = .returned (.bool true) ∧ Below w.heap.size w w' := by
  obtain ⟨l1, l2, h1, h2, hz1, hs1, hs2⟩ := works_keys
  have hi32 : Hid ((Try.prog.info? 25).map (·.size) = some 32) := Lib.hid (by kernel_rfl)
  have b1 : ((u8s (zeros 32)).set 0 (Value.int .u8 1)).toArray = (u8s k1L).toArray := by kernel_rfl
  have b2 : ((u8s (zeros 32)).set 0 (Value.int .u8 2)).toArray = (u8s k2L).toArray := by kernel_rfl
  have hix := index_k1
  have hzk := zeroKy
  have hx1 : Hid ((u8s k1L).toArray.size = 32) := Lib.hid (by kernel_rfl)
  have hx2 : Hid ((u8s k2L).toArray.size = 32) := Lib.hid (by kernel_rfl)
  have hl1 : Hid (k1L.length = 32) := Lib.hid (by kernel_rfl)
  have hl2 : Hid (k2L.length = 32) := Lib.hid (by kernel_rfl)
  have hlt1 : Hid (∀ x ∈ k1L, x < 256) := Lib.hid (by decide)
  obtain ⟨kv1, hk1⟩ : ∃ kv1, (u8s k1L).toArray = kv1 := ⟨_, rfl⟩
  have hk1' := Lib.hid hk1
  have hone : Hid (kv1.all (·.oneCell') = true) := Lib.hid (by rw [← hk1]; exact all_oneCell_toArray u8s_one)
  have hz32 : Hid ((u8s (zeros 32)).toArray.size = kv1.size) := Lib.hid (by rw [← hk1]; rfl)
  have hb0 := built_one
  rw [hk1] at b1 hx1 hb0
  have hb0' := Lib.hid hb0
  clear hk1 hb0
  go_enter Try.func20, Try.ntmps20
  go_wp2_with (first
    | (refine wpList_load_row rfl 25 _ rfl w.heap.size rfl 25 kv1 (0, 0) _ hk5.out Try.underlying25 rfl (by rw [hx1.out]; exact hi32.out) ?_)
    | (refine wpList_store_row rfl 25 _ _ rfl w.heap.size kv1 rfl rfl 25 _ (heap_alloc_new w _) (by rw [hx1.out]; exact hi32.out) hz32.out hone.out ?_
       have hk5 := Lib.hid (setRow_heap _ w.heap.size _ kv1 25 _ (heap_alloc_new w (.cells (u8s (zeros 32)).toArray 25)))
       have hb5 : Hid (Below w.heap.size w ((w.alloc (.cells (u8s (zeros 32)).toArray 25)).setRow w.heap.size kv1)) := Lib.hid (setRow_below ((Below.refl _ _).alloc (Nat.le_refl _) _) (Nat.le_refl _) _)
       generalize ((w.alloc (.cells (u8s (zeros 32)).toArray 25)).setRow w.heap.size kv1) = w1 at hk5 hb5 ⊢)
    | (refine Great.wpList_buildSliceTo rfl 34 25 1 _ rfl _ rfl _ rfl Try.underlying34 kv1 (by rw [List.map_toArray]; exact hb0'.out) ?_))
  have hbB : Hid (Below w.heap.size w (w1.alloc (.cells kv1 25))) := Lib.hid (hb5.out.alloc hb5.out.size _)
  have hkB : Hid ((w1.alloc (.cells kv1 25)).heap[w.heap.size]? = some (.cells kv1 25 (0, 0))) := Lib.hid ((heap_alloc_old w1 _ (Array.getElem?_eq_some_iff.1 hk5.out).1).trans hk5.out)
  have hKA : KeysAt (w1.alloc (.cells kv1 25)) (some ⟨w1.heap.size, 0, none⟩) [l1] := by rw [← hk1'.out]; exact keysAt_one w1 h1
  generalize (w1.alloc (.cells kv1 25)) = w2 at hbB hkB hKA ⊢
  refine (newSet_any w2 _ [l1] 1 1 rfl (by omega) hKA).mono ?_
  rintro e w3 ⟨rfl, ⟨hS, hb3⟩⟩
  simp only [List.length_cons, List.length_nil, Nat.zero_add, List.take_succ_cons, List.take_zero] at hS
  have hk3 := Lib.hid ((hb3.block _ (Array.getElem?_eq_some_iff.1 hkB.out).1).trans hkB.out)
  have hB3 : Hid (Below w.heap.size w w3) := Lib.hid (hbB.out.trans (hb3.mono hbB.out.size))
  have hS' := Lib.hid hS
  generalize w2.heap.size = M0 at hS hS' ⊢
  have hLen : Hid _ := Lib.hid (setLen_any w3 (M0 + 1) M0 1 _ hS)
  rw [hz1] at hLen
  have hH1 := Lib.hid (setHas_any w3 (M0 + 1) M0 1 _ hS k1L hl1.out l1 h1)
  rw [hs1, hk1'.out] at hH1
  have hH2 : Hid (∀ W, Below w3.heap.size w3 W → Calls Try.prog 16 #[.pointer (some ⟨M0 + 1, 0, none⟩), .agg (u8s k2L).toArray] W fun e w' => e = .returned (.bool false) ∧ Below W.heap.size W w') := Lib.hid (fun W hW => by
    have := setHas_any W (M0 + 1) M0 1 _ (hS.below hW (Nat.le_refl _)) k2L hl2.out l2 h2
    rw [hs2] at this
    exact this)
  have hX := Lib.hid (fun W => hex_any k1L W hl1.out hlt1.out)
  rw [hk1'.out] at hX
  clear hS hb3 hKA h1 h2 hs1 hs2 hz1
  go_wp2_with (first
    | (go_at_call 14; refine hLen.out.mono ?_; rintro e w4 ⟨rfl, h5⟩; have h6 := h5.symm; clear h5; subst h6; clear hLen)
    | (go_at_call 16; refine hH1.out.mono ?_; rintro e w4 ⟨rfl, hb4⟩; have hb4' := Lib.hid hb4; have hk4 := Lib.hid ((hb4.block _ (Array.getElem?_eq_some_iff.1 hk3.out).1).trans hk3.out); clear hH1 hb4)
    | (go_at_call 16; refine (hH2.out _ hb4'.out).mono ?_; rintro e w5 ⟨rfl, hb5⟩; have hb5' := Lib.hid hb5; have hk5' := Lib.hid ((hb5.block _ (Array.getElem?_eq_some_iff.1 hk4.out).1).trans hk4.out); clear hH2 hb5)
    | (refine wpList_load_row_g rfl 25 _ rfl w.heap.size rfl 25 kv1 (0, 0) _ hk3.out Try.underlying25 rfl (by rw [hx1.out]; exact hi32.out) ?_)
    | (refine wpList_load_row rfl 25 _ rfl w.heap.size rfl 25 kv1 (0, 0) _ hk5'.out Try.underlying25 rfl (by rw [hx1.out]; exact hi32.out) ?_)
    | (go_at_call 7; refine (hX.out _).mono ?_; rintro e w6 ⟨rfl, hb6⟩; have hb6' := Lib.hid hb6; clear hX hb6))
  go_ret
  have c1 : Below w.heap.size w w4 := hB3.out.trans (hb4'.out.mono hB3.out.size)
  have c2 : Below w.heap.size w w5 := c1.trans (hb5'.out.mono c1.size)
  exact ⟨rfl, c2.trans (hb6'.out.mono c2.size)⟩
end Go.Proofs.Ytlolnpilpdkbkaa
