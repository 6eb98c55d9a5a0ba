/- The document's Pins: Has. (Printed by tools/genpq.py.) -/
import Derived.Test.YtgjokkjmljdmbaaPqO
namespace Go.Proofs.Ytgjokkjmljdmbaa
open Go.RowKit Go.Maps
set_option linter.unusedSimpArgs false
set_option linter.unusedVariables false

theorem rangeAt_belowQ {W W' : World} {b off : Nat} {cs : List Value} (hb : Below W.heap.size W W') (hl : b < W.heap.size) (h : W.rangeAt b off cs) : W'.rangeAt b off cs := fun i v hv => (hb.cell (p := ⟨b, off + i, none⟩) hl).trans (h i v hv)
theorem yieldsIf_binQ {P : Program} {ops : Array Oper} {S : World → Prop} {op : Oper} {a : Act} (hw : Region.wanted op (yielded ops a.tmps) = true) (bo : BinOp) (t t2 : TypeId) (x y : Operand) (ho : op.op = .binOp bo t x y t2) (u1 u2 : Value) (hx : a.eval x = u1) (hy : a.eval y = u2) (v : Value)
    (hg : ∀ w, (eqGuard bo t x y u1 u2).run P w = .ok () w) (hr : ∀ w, S w → (binOp bo t u1 u2).run P w = .ok v w) : YieldsIf P ops S op v a :=
  .inl ⟨hw, fun w hw' => by unfold execOp; simp [ho, hx, hy, hg w, hr w hw']⟩
/-- What stands while a call goes on: the list's cell, the box of the key. -/
structure RQ (w0 : World) (q k : Nat) (A : Option Addr) (N c g : Nat) (x : List Nat) (W : World) : Prop where
  bel : Below w0.heap.size w0 W
  cel : W.cell? ⟨q, 32 + k, none⟩ = some (.slice A N c)
  key : W.heap[g]? = some (.cells (u8s x).toArray 29 (0, 0))
  qlt : q < w0.heap.size
section
variable {w0 W W' : World} {q k N c g : Nat} {A : Option Addr} {x : List Nat}
theorem RQ.keep (h : RQ w0 q k A N c g x W) (hb : Below W.heap.size W W') : RQ w0 q k A N c g x W' :=
  ⟨h.bel.trans (hb.mono h.bel.size), (hb.cell (p := ⟨q, 32 + k, none⟩) (Nat.lt_of_lt_of_le h.qlt h.bel.size)).trans h.cel, (hb.block _ (Array.getElem?_eq_some_iff.1 h.key).1).trans h.key, h.qlt⟩
theorem RQ.app {lo : Nat} (h : RQ w0 q k A N c g x W) (hb : Below lo W W') (h1 : q < lo ∧ w0.heap.size ≤ lo) (h2 : g < lo) : RQ w0 q k A N c g x W' :=
  ⟨h.bel.trans (hb.mono h1.2), (hb.cell (p := ⟨q, 32 + k, none⟩) h1.1).trans h.cel, (hb.block _ h2).trans h.key, h.qlt⟩
end
set_option maxRecDepth 100000 in
theorem rHas_no (w : World) (q : Nat) (f : Nat → RSes) (h : RefAt w q f) (s : Int) (hs : opR f s = false) (x : List Nat) :
    Calls Try.prog 38 #[.pointer (some ⟨q, 0, none⟩), .int .i64 s, .agg (u8s x).toArray] w fun e w' => e = .returned (.bool false) ∧ Below w.heap.size w w' := by
  obtain ⟨w1, hw1⟩ : ∃ w1, w.alloc (.cells (u8s x).toArray 29) = w1 := ⟨_, rfl⟩
  have hb1 : Hid (Below w.heap.size w w1) := Lib.hid (by rw [← hw1]; exact (Below.refl _ _).alloc (Nat.le_refl _) _)
  have ho := rIsOpen_any w1 q f (h.below hb1.out (Nat.le_refl _)) s
  rw [hs] at ho
  have ho' := Lib.hid ho
  clear h ho hs
  go_enter Try.func38, Try.ntmps38
  go_wp2_with (go_at_call 37; (first | rw [hw1] | skip); refine ho'.out.mono ?_; rintro e w5 ⟨rfl, h5⟩; have h6 := h5.symm; clear h5; subst h6; clear ho')
  go_ret
  exact ⟨rfl, hb1.out⟩
set_option maxRecDepth 100000 in
set_option maxHeartbeats 1000000 in
theorem rHas_ok (w : World) (q : Nat) (f : Nat → RSes) (h : RefAt w q f) (k : Nat) (hk : k < 16) (hs : (f k).op = true) (hL : (f k).ks.length < 140737488355328) (x : List Nat) (hx : IsK x) :
    Calls Try.prog 38 #[.pointer (some ⟨q, 0, none⟩), .int .i64 (k : Int), .agg (u8s x).toArray] w fun e w' => e = .returned (.bool (decide (x ∈ (f k).ks))) ∧ Below w.heap.size w w' := by
  obtain ⟨w1, hw1⟩ : ∃ w1, w.alloc (.cells (u8s x).toArray 29) = w1 := ⟨_, rfl⟩
  obtain ⟨g, hg⟩ : ∃ g, w.heap.size = g := ⟨_, rfl⟩
  have hb1 : Hid (Below w.heap.size w w1) := Lib.hid (by rw [← hw1]; exact (Below.refl _ _).alloc (Nat.le_refl _) _)
  have h1 := h.below hb1.out (Nat.le_refl _)
  have ho := rIsOpen_any w1 q f h1 k
  rw [opR_nat f hk, hs] at ho
  have ho' := Lib.hid ho
  have hown := Lib.hid (h.row k hk)
  have hR0 : Hid (RQ w q k (f k).A (f k).ks.length (f k).c g x w1) := Lib.hid ⟨hb1.out, h1.cks hk, by rw [← hw1, ← hg]; exact heap_alloc_new w _, h.lt⟩
  have hks := Lib.hid (h.rise k hk).ok
  have hk0 : (0 : Int) ≤ (k : Int) := by omega
  have hk1 : (k : Int) < 16 := by omega
  have hi32 : Hid ((Try.prog.info? 29).map (·.size) = some 32) := Lib.hid (by kernel_rfl)
  have hxs : Hid ((u8s x).toArray.size = 32) := Lib.hid (by simp [u8s, hx.1])
  have hxl := Lib.hid hx.1
  clear h h1 ho hs hx
  generalize (f k).ks = ks at hR0 hown hks hL ⊢
  generalize (f k).A = A at hR0 hown
  generalize (f k).c = c at hR0 hown
  obtain ⟨N, hN⟩ : ∃ N, ks.length = N := ⟨_, rfl⟩
  obtain ⟨B, hB⟩ : ∃ B, decide (x ∈ ks) = B := ⟨_, rfl⟩
  rw [hB]
  rw [hN] at hL hR0
  have hB' := Lib.hid hB
  have hN' := Lib.hid hN
  have hR1 := hR0
  clear hB hN hR0
  go_enter Try.func38, Try.ntmps38
  go_wp2_with (go_at_call 37; (first | rw [hw1] | skip); refine ho'.out.mono ?_; rintro e w5 ⟨rfl, h5⟩; have h6 := h5.symm; clear h5; subst h6; clear ho')
  clear hw1 hb1
  go_loopw [7] (fun iv wr => ∃ i : Nat, i ≤ N ∧ iv = .int .i64 (i : Int) ∧ Hid (∀ j y, j < i → ks[j]? = some y → y ≠ x) ∧ Hid (RQ w q k A N c g x wr)) (fun iv _ => N - (intOf iv).toNat)
  case atStart => exact ⟨0, by omega, rfl, Lib.hid (fun j y hj => by omega), hR1⟩
  case round =>
    clear hR1
    obtain ⟨i, hi, rfl, hno, hR⟩ := hrel
    have c0 := hR.out.cel
    by_cases hlt : i < N
    · obtain ⟨y, hy⟩ : ∃ y, ks[i]? = some y := ⟨_, List.getElem?_eq_getElem (by rw [hN'.out]; exact hlt)⟩
      have hym := List.mem_of_getElem? hy
      have hyk : IsK y := hks.out y hym
      obtain ⟨b, off, rfl, hbl, hrg⟩ := ownK_at hown.out (fun z hz => (hks.out z hz).1) hy
      have hrk : Hid (∀ W, Below w.heap.size w W → W.rangeAt b (off + i * 32) (u8s y)) := Lib.hid fun W hW => rangeAt_belowQ hW hbl hrg
      have hy32 : Hid ((u8s y).length = 32) := Lib.hid (by simp [u8s, hyk.1])
      have hd : Hid (RQ w q k (some ⟨b, off, none⟩) N c g x wr.drew) := Lib.hid (hR.out.keep (below_drewN (Below.refl _ _) 1))
      by_cases hxy : y = x
      · have hin : Hid (B = true) := Lib.hid (by rw [← hB'.out, decide_eq_true (hxy ▸ hym)])
        have hcmp : Hid (∀ W, (binOp .eql 29 (.agg (u8s y).toArray) (.agg (u8s x).toArray)).run Try.prog W = .ok (.bool true) W) := Lib.hid fun W => by
          have := eqK hyk.1 hxl.out W
          rwa [decide_eq_true hxy] at this
        clear hy hym hyk hbl hrg hxy hno
        go_wp2_with fail
        refine wp_region_held (S := RQ w q k (some ⟨b, off, none⟩) N c g x) (by kernel_rfl) ?_
        change wpAnyH _ _ _ _ _ _ _ _ (World.drew _)
        refine tk (i := 0) (d := 23) (v := (.pointer (some ⟨q, 0, none⟩))) rfl rfl (Or.inl ⟨by rfl, by intro W hW; clear hW; go_simp⟩) hd.out ?_
        simp only [List.setIfInBounds_toArray, List.set_cons_zero, List.set_cons_succ]
        refine tk (i := 1) (d := 24) (v := (.int .i64 (k : Int))) rfl rfl (Or.inl ⟨by rfl, by intro W hW; clear hW; go_simp⟩) hd.out ?_
        simp only [List.setIfInBounds_toArray, List.set_cons_zero, List.set_cons_succ]
        refine tk (i := 2) (d := 25) (v := (.pointer (some ⟨q, 0, none⟩))) rfl rfl (Or.inl ⟨by rfl, by intro W hW; clear hW; go_simp⟩) hd.out ?_
        simp only [List.setIfInBounds_toArray, List.set_cons_zero, List.set_cons_succ]
        refine tk (i := 3) (d := 26) (v := (.pointer (some ⟨q, 32, none⟩))) rfl rfl (Or.inl ⟨by rfl, by intro W hW; clear hW; go_simp⟩) hd.out ?_
        simp only [List.setIfInBounds_toArray, List.set_cons_zero, List.set_cons_succ]
        refine tk (i := 4) (d := 27) (v := (.pointer (some ⟨q, 32 + k, none⟩))) rfl rfl (Or.inl ⟨by rfl, by intro W hW; clear hW; go_simp⟩) hd.out ?_
        simp only [List.setIfInBounds_toArray, List.set_cons_zero, List.set_cons_succ]
        refine tk (i := 5) (d := 28) (v := (.slice (some ⟨b, off, none⟩) N c)) rfl rfl (Or.inl ⟨by rfl, by intro W hW; have c0 := hW.cel; clear hW; go_simp⟩) hd.out ?_
        simp only [List.setIfInBounds_toArray, List.set_cons_zero, List.set_cons_succ]
        refine tk (i := 6) (d := 29) (v := (.int .i64 (i : Int))) rfl rfl (Or.inl ⟨by rfl, by intro W hW; clear hW; go_simp⟩) hd.out ?_
        simp only [List.setIfInBounds_toArray, List.set_cons_zero, List.set_cons_succ]
        refine tk (i := 7) (d := 30) (v := (.pointer (some ⟨b, off + i * 32, none⟩))) rfl rfl (Or.inl ⟨by rfl, by intro W hW; clear hW; go_simp⟩) hd.out ?_
        simp only [List.setIfInBounds_toArray, List.set_cons_zero, List.set_cons_succ]
        refine tk (i := 8) (d := 31) (v := (.agg (u8s y).toArray)) rfl rfl (yieldsIf_load_mid (by rfl) 29 _ rfl b (off + i * 32) rfl (u8s y) _ (fun W hW => hrk.out W hW.bel) Try.underlying29 rfl (by rw [hy32.out]; exact hi32.out)) hd.out ?_
        simp only [List.setIfInBounds_toArray, List.set_cons_zero, List.set_cons_succ]
        refine tk (i := 9) (d := 32) (v := (.agg (u8s x).toArray)) rfl rfl (yieldsIf_load_row (by rfl) 29 _ rfl g rfl 29 (u8s x).toArray (0, 0) _ (fun W hW => hW.key) Try.underlying29 rfl (by rw [hxs.out]; exact hi32.out)) hd.out ?_
        simp only [List.setIfInBounds_toArray, List.set_cons_zero, List.set_cons_succ]
        refine tk (i := 10) (d := 33) (v := (.bool true)) rfl rfl (yieldsIf_binQ (by rfl) .eql 29 _ _ _ rfl (.agg (u8s y).toArray) (.agg (u8s x).toArray) rfl rfl (.bool true) (fun _ => rfl) (fun W _ => hcmp.out W)) hd.out ?_
        simp only [List.setIfInBounds_toArray, List.set_cons_zero, List.set_cons_succ]
        refine wpAnyH_done (by kernel_rfl) ?_ _
        have hdz := hd
        go_wp2_with fail
        go_ret
        exact ⟨by rw [hin.out]; rfl, hdz.out.bel⟩
      · have hno2 : Hid (∀ j z, j < i + 1 → ks[j]? = some z → z ≠ x) := Lib.hid fun j z hj hz => by
          rcases Nat.lt_or_ge j i with h | h
          · exact hno.out j z h hz
          · rw [show j = i by omega, hy] at hz
            cases hz
            exact hxy
        have hcmp : Hid (∀ W, (binOp .eql 29 (.agg (u8s y).toArray) (.agg (u8s x).toArray)).run Try.prog W = .ok (.bool false) W) := Lib.hid fun W => by
          have := eqK hyk.1 hxl.out W
          rwa [decide_eq_false hxy] at this
        clear hy hym hyk hbl hrg hxy hno
        go_wp2_with fail
        refine wp_region_held (S := RQ w q k (some ⟨b, off, none⟩) N c g x) (by kernel_rfl) ?_
        change wpAnyH _ _ _ _ _ _ _ _ (World.drew _)
        refine tk (i := 0) (d := 23) (v := (.pointer (some ⟨q, 0, none⟩))) rfl rfl (Or.inl ⟨by rfl, by intro W hW; clear hW; go_simp⟩) hd.out ?_
        simp only [List.setIfInBounds_toArray, List.set_cons_zero, List.set_cons_succ]
        refine tk (i := 1) (d := 24) (v := (.int .i64 (k : Int))) rfl rfl (Or.inl ⟨by rfl, by intro W hW; clear hW; go_simp⟩) hd.out ?_
        simp only [List.setIfInBounds_toArray, List.set_cons_zero, List.set_cons_succ]
        refine tk (i := 2) (d := 25) (v := (.pointer (some ⟨q, 0, none⟩))) rfl rfl (Or.inl ⟨by rfl, by intro W hW; clear hW; go_simp⟩) hd.out ?_
        simp only [List.setIfInBounds_toArray, List.set_cons_zero, List.set_cons_succ]
        refine tk (i := 3) (d := 26) (v := (.pointer (some ⟨q, 32, none⟩))) rfl rfl (Or.inl ⟨by rfl, by intro W hW; clear hW; go_simp⟩) hd.out ?_
        simp only [List.setIfInBounds_toArray, List.set_cons_zero, List.set_cons_succ]
        refine tk (i := 4) (d := 27) (v := (.pointer (some ⟨q, 32 + k, none⟩))) rfl rfl (Or.inl ⟨by rfl, by intro W hW; clear hW; go_simp⟩) hd.out ?_
        simp only [List.setIfInBounds_toArray, List.set_cons_zero, List.set_cons_succ]
        refine tk (i := 5) (d := 28) (v := (.slice (some ⟨b, off, none⟩) N c)) rfl rfl (Or.inl ⟨by rfl, by intro W hW; have c0 := hW.cel; clear hW; go_simp⟩) hd.out ?_
        simp only [List.setIfInBounds_toArray, List.set_cons_zero, List.set_cons_succ]
        refine tk (i := 6) (d := 29) (v := (.int .i64 (i : Int))) rfl rfl (Or.inl ⟨by rfl, by intro W hW; clear hW; go_simp⟩) hd.out ?_
        simp only [List.setIfInBounds_toArray, List.set_cons_zero, List.set_cons_succ]
        refine tk (i := 7) (d := 30) (v := (.pointer (some ⟨b, off + i * 32, none⟩))) rfl rfl (Or.inl ⟨by rfl, by intro W hW; clear hW; go_simp⟩) hd.out ?_
        simp only [List.setIfInBounds_toArray, List.set_cons_zero, List.set_cons_succ]
        refine tk (i := 8) (d := 31) (v := (.agg (u8s y).toArray)) rfl rfl (yieldsIf_load_mid (by rfl) 29 _ rfl b (off + i * 32) rfl (u8s y) _ (fun W hW => hrk.out W hW.bel) Try.underlying29 rfl (by rw [hy32.out]; exact hi32.out)) hd.out ?_
        simp only [List.setIfInBounds_toArray, List.set_cons_zero, List.set_cons_succ]
        refine tk (i := 9) (d := 32) (v := (.agg (u8s x).toArray)) rfl rfl (yieldsIf_load_row (by rfl) 29 _ rfl g rfl 29 (u8s x).toArray (0, 0) _ (fun W hW => hW.key) Try.underlying29 rfl (by rw [hxs.out]; exact hi32.out)) hd.out ?_
        simp only [List.setIfInBounds_toArray, List.set_cons_zero, List.set_cons_succ]
        refine tk (i := 10) (d := 33) (v := (.bool false)) rfl rfl (yieldsIf_binQ (by rfl) .eql 29 _ _ _ rfl (.agg (u8s y).toArray) (.agg (u8s x).toArray) rfl rfl (.bool false) (fun _ => rfl) (fun W _ => hcmp.out W)) hd.out ?_
        simp only [List.setIfInBounds_toArray, List.set_cons_zero, List.set_cons_succ]
        refine wpAnyH_done (by kernel_rfl) ?_ _
        have hdz := hd
        go_wp2_with fail
        go_roundw
        case rel => exact ⟨i + 1, by omega, by go_num, hno2, hdz⟩
        case measure => simp [intOf]; omega
    · have hin : Hid (B = false) := Lib.hid (by
        rw [← hB'.out]
        refine decide_eq_false fun hm => ?_
        obtain ⟨j, hj⟩ := List.mem_iff_getElem?.1 hm
        exact hno.out j x (by have := (List.getElem?_eq_some_iff.1 hj).1; rw [hN'.out] at this; omega) hj rfl)
      clear hno
      go_wp2_with fail
      go_ret
      exact ⟨by rw [hin.out]; rfl, hR.out.bel⟩
end Go.Proofs.Ytgjokkjmljdmbaa
