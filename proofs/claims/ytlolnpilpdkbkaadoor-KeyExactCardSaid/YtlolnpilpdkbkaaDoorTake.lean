/- A Hasher takes a block. -/
import Derived.Test.YtlolnpilpdkbkaaDoorHash
namespace Go.Proofs.YtlolnpilpdkbkaaDoor
open Go.RowKit
set_option linter.unusedSimpArgs false

set_option maxRecDepth 100000 in
theorem take_any (w : World) {g o n : Nat} {st rs : List Nat} {bg : Bool} (ks b s0 : List Nat) (hs0 : (if bg = true then st else startL) = s0) (h : HR w g o st rs n bg) (hT : Tab w ks) (hk : ks.length = 64) (hkl : ∀ x ∈ ks, x < 4294967296)
    (hs0n : s0.length = 8) (hs0l : ∀ x ∈ s0, x < 4294967296) (hb : ∀ x ∈ b, x < 256) (hn : b.length = 64) :
    Calls Tryd.prog 38 #[.pointer (some ⟨g, o, none⟩), .agg (u8s b).toArray] w fun e w' => (∃ v, e = .returned v) ∧ HR w' g o (Sha.blockL ks s0 b) rs n true ∧ Chg w w' g o 74 := by
  have hi8 : (Tryd.prog.info? 61).map (·.size) = some 8 := by kernel_rfl
  have hi64 : (Tryd.prog.info? 62).map (·.size) = some 64 := by kernel_rfl
  have hi8' := Lib.hid hi8
  have hi64' := Lib.hid hi64
  have hszb : (u8s b).length = 64 := by simp [u8s, hn]
  have hB0 : Below w.heap.size w (w.alloc (.cells (u8s b).toArray 62)) := (Below.refl _ _).alloc (Nat.le_refl _) _
  have h1 := h.below hB0
  have hT1 := hT.below hB0
  have hbx : (w.alloc (.cells (u8s b).toArray 62)).rangeAt w.heap.size 0 (u8s b) := fun j v hv => by
    rw [Nat.zero_add, cell_of_row _ _ _ _ _ _ (heap_alloc_new w _)]
    simpa using hv
  have hgw : g ≠ w.heap.size := Nat.ne_of_lt h.lt
  have hC : Chg w (w.alloc (.cells (u8s b).toArray 62)) g o 74 := Chg.of_below hB0 h.lt
  have h1' := Lib.hid h1
  have hT1' := Lib.hid hT1
  have hbx' := Lib.hid hbx
  have hC' := Lib.hid hC
  have hL : ∃ L, Hid (∀ _ : Unit, Sha.blockL ks s0 b = L) := ⟨_, Lib.hid fun _ => rfl⟩
  obtain ⟨L, hL⟩ := hL
  have hLn : L.length = 8 := by rw [← hL.out ()]; exact blockL_length _ _ _
  have hLs : (u32s L).length = 8 := by rw [u32s_length]; exact hLn
  have cN : Hid (∀ W : World, HR W g o st rs n bg → Calls Tryd.prog 40 #[.pointer (some ⟨g, o, none⟩)] W fun e w' => e = .returned (.agg (u32s s0).toArray) ∧ Below W.heap.size W w') := Lib.hid fun W hW => by
    rw [← hs0]; exact now_any W hW
  have cB : Hid (∀ W : World, Tab W ks → Calls Tryd.prog 45 #[.agg (u32s s0).toArray, .agg (u8s b).toArray] W fun e w' => e = .returned (.agg (u32s L).toArray) ∧ Below W.heap.size W w') := Lib.hid fun W hW => by
    rw [← hL.out ()]; exact block_any s0 b ks W hs0n hs0l hb hn hk hkl hW.all
  clear hi8 hi64 hB0 h1 hT1 hbx hC h hT hs0 hs0n hs0l hb hn hk hkl
  go_enter Tryd.func38, Tryd.ntmps38
  go_wp2_with fail
  generalize (w.alloc (.cells (u8s b).toArray 62)) = w1 at h1' hT1' hbx' hC' ⊢
  refine wp_region_held (S := fun W => W.rangeAt w.heap.size 0 (u8s b)) (by kernel_rfl) ?_
  change wpAnyH _ _ _ _ _ _ _ _ (World.drew _)
  have hd : w1.drew.rangeAt w.heap.size 0 (u8s b) := hbx'.out
  refine wpAnyH_take (i := 0) (v := .pointer (some ⟨g, o, none⟩)) rfl (by kernel_rfl) (by kernel_rfl) (by kernel_rfl) (fun _ _ _ h => h) (Or.inl ⟨by rfl, by intro W _; go_simp⟩) hd ?_
  refine wpAnyH_take (i := 1) (v := .pointer (some ⟨g, o, none⟩)) rfl (by kernel_rfl) (by kernel_rfl) (by kernel_rfl) (fun _ _ _ h => h) (Or.inl ⟨by rfl, by intro W _; go_simp⟩) hd ?_
  refine wpAnyH_take (i := 3) rfl (by kernel_rfl) (by kernel_rfl) (by kernel_rfl) (fun _ _ _ h => h) (yieldsIf_load_mid (by rfl) 62 _ rfl w.heap.size 0 rfl (u8s b) _ (fun _ h => h) Tryd.underlying62 rfl (by rw [hszb]; exact hi64'.out)) hd ?_
  simp only [Act.put, List.setIfInBounds_toArray, List.set_cons_zero, List.set_cons_succ]
  refine wpAnyH_ready (rs := [2]) (by kernel_rfl) (by simp) ?_
  refine AllReadyH.cons rfl (fun K hK => ?_) AllReadyH.nil
  go_simp
  go_wp2_with (go_at_call 40; refine (cN.out _ h1'.out.drew).mono ?_; rintro e w2 ⟨rfl, hb2⟩; skip)
  have hB2 : Below w1.heap.size w1 w2 := (Below.refl _ _).drew.trans hb2
  have hx2 : w2.rangeAt w.heap.size 0 (u8s b) := fun j v hv => by
    have := hbx'.out j v hv
    rw [hB2.cell (World.block_lt_of_cell? w1 _ this)]
    exact this
  have h2' := Lib.hid (h1'.out.below hB2)
  have hT2' := Lib.hid (hT1'.out.below hB2)
  have hC2' := Lib.hid (hC'.out.trans (Chg.of_below hB2 h1'.out.lt))
  refine hK.out _ _ hx2 (fun _ => ?_)
  clear hK K hB2 hb2 hd
  refine wpAnyH_ready (rs := [4]) (by kernel_rfl) (by simp) ?_
  refine AllReadyH.cons rfl (fun K hK => ?_) AllReadyH.nil
  go_simp
  go_wp2_with (go_at_call 45; refine (cB.out _ hT2'.out).mono ?_; rintro e w3 ⟨rfl, hb3⟩; skip)
  have hx3 : w3.rangeAt w.heap.size 0 (u8s b) := fun j v hv => by
    have := hx2 j v hv
    rw [hb3.cell (World.block_lt_of_cell? w2 _ this)]
    exact this
  have h3' := Lib.hid (h2'.out.below hb3)
  have hC3' := Lib.hid (hC2'.out.trans (Chg.of_below hb3 h2'.out.lt))
  refine hK.out _ _ hx3 (fun _ => ?_)
  clear hK K hb3
  refine wpAnyH_ready (rs := [5]) (by kernel_rfl) (by simp) ?_
  refine AllReadyH.cons rfl (fun K hK => ?_) AllReadyH.nil
  go_simp
  refine hK.out _ _ hx3 (fun _ => ?_)
  clear hK K
  refine wpAnyH_ready (rs := [6]) (by kernel_rfl) (by simp) ?_
  refine AllReadyH.cons rfl (fun K hK => ?_) AllReadyH.nil
  go_simp
  refine hK.out _ _ hx3 (fun _ => ?_)
  clear hK K
  refine wpAnyH_ready (rs := [7]) (by kernel_rfl) (by simp) ?_
  refine AllReadyH.cons rfl (fun K hK => ?_) AllReadyH.nil
  rw [if_pos (by rfl)]
  refine wp_store_mid 61 _ _ rfl g o (u32s L).toArray rfl rfl (by rw [List.size_toArray, hLs]; exact h3'.out.there1) (by rw [List.size_toArray, hLs]; exact hi8'.out) (by simp [u32s, Value.oneCell']) ?_
  have h4 := h3'.out.setSt hLn
  have hC4 : Chg w (w3.setCells g o (u32s L)) g o 74 := hC3'.out.trans (Chg.cells w3 g (Nat.le_refl _) (by rw [hLs]; omega))
  have hx4 : (w3.setCells g o (u32s L)).rangeAt w.heap.size 0 (u8s b) := World.rangeAt_setCells_apart hx3 g o _ (.inl (Ne.symm hgw))
  have h4' := Lib.hid h4
  have hC4' := Lib.hid hC4
  refine hK.out _ _ hx4 (fun _ => ?_)
  clear hK K h4 hC4 hx4 hx3 h3' hC3' hx2 h2' hT2' hC2'
  refine wpAnyH_done (by kernel_rfl) ?_ _
  have hc := h4'.out.cb
  have hf := h4'.out.fr (o + 73)
  go_wp2_with fail
  go_end0
  refine ⟨⟨_, rfl⟩, ?_, hC4'.out.trans (Chg.cell1 _ g (by omega) (by omega))⟩
  rw [hL.out ()]
  exact h4'.out.setBg true
end Go.Proofs.YtlolnpilpdkbkaaDoor
