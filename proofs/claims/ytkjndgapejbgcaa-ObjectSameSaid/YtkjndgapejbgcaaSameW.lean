/- ObjectSame: the law's walk. -/
import Derived.Test.YtkjndgapejbgcaaCopied
import Derived.Test.YtkjndgapejbgcaaSameO
import Derived.Test.YtkjndgapejbgcaaSameR
import Derived.BigRegion
import Derived.Deep.RegionHeld3
namespace Go.Proofs.Ytkjndgapejbgcaa
open Go.RowKit
set_option linter.unusedSimpArgs false

theorem OBlk.range {w : World} {g : Nat} {o : ObjT} {p : Lay} (h : OBlk w g o p) : w.rangeAt g 0 (ocells o p) := fun j v hv => by
  rw [Nat.zero_add]
  exact h.cell hv

set_option maxRecDepth 100000 in
set_option maxHeartbeats 4000000 in
theorem objectSame_any (w : World) (a b : ObjT) (p q : Lay) (ha : ObjIn w w.heap.size a p) (hb : ObjIn w w.heap.size b q) (hfa : Fit a) (hfb : Fit b) :
    Calls Try.prog 4 #[.agg (ocells a p).toArray, .agg (ocells b q).toArray] w fun e w' => e = .returned (.bool true) ∧ Below w.heap.size w w' := by
  have hi39 : (Try.prog.info? 31).map (·.size) = some 39 := by kernel_rfl
  have hi39' := Lib.hid hi39
  have hB : Below w.heap.size w ((w.alloc (.cells (ocells a p).toArray 31)).alloc (.cells (ocells b q).toArray 31)) := ((Below.refl _ _).alloc (Nat.le_refl _) _).alloc (by simp) _
  have hoa : OBlk ((w.alloc (.cells (ocells a p).toArray 31)).alloc (.cells (ocells b q).toArray 31)) w.heap.size a p := heap_alloc2_old w _ _
  have hob : OBlk ((w.alloc (.cells (ocells a p).toArray 31)).alloc (.cells (ocells b q).toArray 31)) (w.heap.size + 1) b q := heap_alloc2_new w _ _
  obtain ⟨S, hS⟩ : ∃ S : World → Prop, S = fun W => OBlk W w.heap.size a p ∧ OBlk W (w.heap.size + 1) b q ∧ Below w.heap.size w W := ⟨_, rfl⟩
  have s0 : S ((w.alloc (.cells (ocells a p).toArray 31)).alloc (.cells (ocells b q).toArray 31)) := by rw [hS]; exact ⟨hoa, hob, hB⟩
  have sA : Hid (∀ W, S W → W.rangeAt w.heap.size 0 (ocells a p)) := Lib.hid fun W h => by rw [hS] at h; exact h.1.range
  have sB : Hid (∀ W, S W → W.rangeAt (w.heap.size + 1) 0 (ocells b q)) := Lib.hid fun W h => by rw [hS] at h; exact h.2.1.range
  have sL : Hid (∀ W, S W → Below w.heap.size w W) := Lib.hid fun W h => by rw [hS] at h; exact h.2.2
  have sK : Hid (∀ W W', S W → Below W.heap.size W W' → S W') := Lib.hid fun W W' h hb => by
    rw [hS] at h ⊢
    exact ⟨h.1.below hb (lt_of_block h.1), h.2.1.below hb (lt_of_block h.2.1), h.2.2.trans (hb.mono h.2.2.size)⟩
  have cpA : Hid (∀ W, S W → Calls Try.prog 7 #[.agg (ocells a p).toArray] W fun e w' => (∃ q, e = .returned (.agg (ocells a q).toArray) ∧ LentK w' W.heap.size a q 4) ∧ Below W.heap.size W w') := Lib.hid fun W h =>
    copied_any W a p ((ha.below (sL.out W h)).mono (sL.out W h).size) hfa
  have cpB : Hid (∀ W, S W → Calls Try.prog 7 #[.agg (ocells b q).toArray] W fun e w' => (∃ q, e = .returned (.agg (ocells b q).toArray) ∧ LentK w' W.heap.size b q 4) ∧ Below W.heap.size W w') := Lib.hid fun W h =>
    copied_any W b q ((hb.below (sL.out W h)).mono (sL.out W h).size) hfb
  have rfS : Hid (∀ W, S W → Calls Try.prog 8 #[.agg (ocells a p).toArray, .agg (ocells b q).toArray] W fun e w' => e = .returned (.bool (sameO a b)) ∧ Below W.heap.size W w') := Lib.hid fun W h =>
    refSame_any W a b p q ((ha.below (sL.out W h)).mono (sL.out W h).size) ((hb.below (sL.out W h)).mono (sL.out W h).size) hfa hfb
  have inA : Hid (∀ W, S W → ObjIn W W.heap.size a p) := Lib.hid fun W h => (ha.below (sL.out W h)).mono (sL.out W h).size
  have inB : Hid (∀ W, S W → ObjIn W W.heap.size b q) := Lib.hid fun W h => (hb.below (sL.out W h)).mono (sL.out W h).size
  have l39 : Hid (∀ o p, (ocells o p).length = 39) := Lib.hid ocells_length
  have s0' := Lib.hid s0
  have hfa' := Lib.hid hfa
  have hfb' := Lib.hid hfb
  clear hS hoa hob hB ha hb hfa hfb s0 hi39
  go_enter Try.func4, Try.ntmps4
  go_wp2_with fail
  generalize ((w.alloc (.cells (ocells a p).toArray 31)).alloc (.cells (ocells b q).toArray 31)) = w0 at s0' ⊢
  refine wp_region_held (S := S) (by kernel_rfl) ?_
  change wpAnyH _ _ _ _ _ _ _ _ (World.drew _)
  have hd : Hid (S w0.drew) := Lib.hid (sK.out _ _ s0'.out (below_drewN (Below.refl _ _) 1))
  refine wpAnyH_take (i := 0) rfl (by kernel_rfl) (by kernel_rfl) (by kernel_rfl) (fun _ _ _ h => h) (yieldsIf_load_mid (by rfl) 31 _ rfl w.heap.size 0 rfl (ocells a p) _ sA.out Try.underlying31 rfl (by rw [l39.out]; exact hi39'.out)) hd.out ?_
  refine wpAnyH_take (i := 2) rfl (by kernel_rfl) (by kernel_rfl) (by kernel_rfl) (fun _ _ _ h => h) (yieldsIf_load_mid (by rfl) 31 _ rfl (w.heap.size + 1) 0 rfl (ocells b q) _ sB.out Try.underlying31 rfl (by rw [l39.out]; exact hi39'.out)) hd.out ?_
  refine wpAnyH_take (i := 5) rfl (by kernel_rfl) (by kernel_rfl) (by kernel_rfl) (fun _ _ _ h => h) (yieldsIf_load_mid (by rfl) 31 _ rfl w.heap.size 0 rfl (ocells a p) _ sA.out Try.underlying31 rfl (by rw [l39.out]; exact hi39'.out)) hd.out ?_
  refine wpAnyH_take (i := 6) rfl (by kernel_rfl) (by kernel_rfl) (by kernel_rfl) (fun _ _ _ h => h) (yieldsIf_load_mid (by rfl) 31 _ rfl (w.heap.size + 1) 0 rfl (ocells b q) _ sB.out Try.underlying31 rfl (by rw [l39.out]; exact hi39'.out)) hd.out ?_
  simp only [Act.put, List.setIfInBounds_toArray, List.set_cons_zero, List.set_cons_succ]
  refine wpAnyH_ready (rs := [1]) (by kernel_rfl) (by simp) ?_
  refine AllReadyH.cons rfl (fun K hK => ?_) AllReadyH.nil
  go_simp
  go_wp2_with (go_at_call 7; refine (cpA.out _ hd.out).mono ?_; rintro e w1 ⟨⟨qa, rfl, la⟩, b1⟩; skip)
  have hd1 := Lib.hid (sK.out _ _ hd.out b1)
  refine hK.out _ _ hd1.out (fun _ => ?_)
  clear hK K hd
  have la' := Lib.hid la
  clear la b1
  refine wpAnyH_ready (rs := [3]) (by kernel_rfl) (by simp) ?_
  refine AllReadyH.cons rfl (fun K hK => ?_) AllReadyH.nil
  go_simp
  go_wp2_with (go_at_call 7; refine (cpB.out _ hd1.out).mono ?_; rintro e w2 ⟨⟨qb, rfl, lb⟩, b2⟩; skip)
  have hd2 := Lib.hid (sK.out _ _ hd1.out b2)
  refine hK.out _ _ hd2.out (fun _ => ?_)
  clear hK K
  have sm := same_any w2 a b qa qb (la'.out.below b2).objIn lb.objIn hfa'.out
  have hR : ∃ R, Hid (∀ _ : Unit, sameO a b = R) := ⟨_, Lib.hid fun _ => rfl⟩
  obtain ⟨R, hR⟩ := hR
  rw [hR.out ()] at sm
  have rf2 := rfS.out
  rw [hR.out ()] at rf2
  have rf2' := Lib.hid rf2
  have sm' := Lib.hid sm
  clear la' lb b2 sm rf2 rfS hd1
  refine wpAnyH_ready (rs := [4]) (by kernel_rfl) (by simp) ?_
  refine AllReadyH.cons rfl (fun K hK => ?_) AllReadyH.nil
  go_simp
  go_wp2_with (go_at_call 6; refine sm'.out.mono ?_; rintro e w3 ⟨rfl, b3⟩; skip)
  have hd3 := Lib.hid (sK.out _ _ hd2.out b3)
  refine hK.out _ _ hd3.out (fun _ => ?_)
  clear hK K
  clear b3 sm' hd2
  refine wpAnyH_ready (rs := [7]) (by kernel_rfl) (by simp) ?_
  refine AllReadyH.cons rfl (fun K hK => ?_) AllReadyH.nil
  go_simp
  go_wp2_with (go_at_call 8; refine (rf2'.out _ hd3.out).mono ?_; rintro e w4 ⟨rfl, b4⟩; skip)
  have hd4 := Lib.hid (sK.out _ _ hd3.out b4)
  refine hK.out _ _ hd4.out (fun _ => ?_)
  clear hK K
  clear b4 rf2' hd3
  refine wpAnyH_ready (rs := [8]) (by kernel_rfl) (by simp) ?_
  refine AllReadyH.cons rfl (fun K hK => ?_) AllReadyH.nil
  go_simp
  refine hK.out _ _ hd4.out (fun _ => ?_)
  clear hK K
  refine wpAnyH_ready (rs := [9]) (by kernel_rfl) (by simp) ?_
  refine AllReadyH.cons rfl (fun K hK => ?_) AllReadyH.nil
  go_simp
  refine hK.out _ _ hd4.out (fun _ => ?_)
  clear hK K
  refine wpAnyH_take (i := 10) rfl (by kernel_rfl) (by kernel_rfl) (by kernel_rfl) (fun _ _ _ h => h) (yieldsIf_load_mid (by rfl) 31 _ rfl w.heap.size 0 rfl (ocells a p) _ sA.out Try.underlying31 rfl (by rw [l39.out]; exact hi39'.out)) hd4.out ?_
  refine wpAnyH_take (i := 11) rfl (by kernel_rfl) (by kernel_rfl) (by kernel_rfl) (fun _ _ _ h => h) (yieldsIf_load_mid (by rfl) 31 _ rfl w.heap.size 0 rfl (ocells a p) _ sA.out Try.underlying31 rfl (by rw [l39.out]; exact hi39'.out)) hd4.out ?_
  simp only [Act.put, List.setIfInBounds_toArray, List.set_cons_zero, List.set_cons_succ]
  refine wpAnyH_ready (rs := [12]) (by kernel_rfl) (by simp) ?_
  refine AllReadyH.cons rfl (fun K hK => ?_) AllReadyH.nil
  go_simp
  go_wp2_with (go_at_call 7; refine (cpA.out _ hd4.out).mono ?_; rintro e w5 ⟨⟨qc, rfl, lc⟩, b5⟩; skip)
  have hd5 := Lib.hid (sK.out _ _ hd4.out b5)
  refine hK.out _ _ hd5.out (fun _ => ?_)
  clear hK K
  have sm := same_any w5 a a p qc (inA.out _ hd5.out) lc.objIn hfa'.out
  rw [sameO_self] at sm
  have sm' := Lib.hid sm
  clear lc b5 sm hd4
  refine wpAnyH_ready (rs := [13]) (by kernel_rfl) (by simp) ?_
  refine AllReadyH.cons rfl (fun K hK => ?_) AllReadyH.nil
  go_simp
  go_wp2_with (go_at_call 6; refine sm'.out.mono ?_; rintro e w6 ⟨rfl, b6⟩; skip)
  have hd6 := Lib.hid (sK.out _ _ hd5.out b6)
  refine hK.out _ _ hd6.out (fun _ => ?_)
  clear hK K
  clear b6 sm' hd5
  refine wpAnyH_ready (rs := [14]) (by kernel_rfl) (by simp) ?_
  refine AllReadyH.cons rfl (fun K hK => ?_) AllReadyH.nil
  go_simp
  refine hK.out _ _ hd6.out (fun _ => ?_)
  clear hK K
  refine wpAnyH_ready (rs := [15]) (by kernel_rfl) (by simp) ?_
  refine AllReadyH.cons rfl (fun K hK => ?_) AllReadyH.nil
  go_simp
  refine hK.out _ _ hd6.out (fun _ => ?_)
  clear hK K
  refine wpAnyH_take (i := 16) rfl (by kernel_rfl) (by kernel_rfl) (by kernel_rfl) (fun _ _ _ h => h) (yieldsIf_load_mid (by rfl) 31 _ rfl (w.heap.size + 1) 0 rfl (ocells b q) _ sB.out Try.underlying31 rfl (by rw [l39.out]; exact hi39'.out)) hd6.out ?_
  refine wpAnyH_take (i := 17) rfl (by kernel_rfl) (by kernel_rfl) (by kernel_rfl) (fun _ _ _ h => h) (yieldsIf_load_mid (by rfl) 31 _ rfl (w.heap.size + 1) 0 rfl (ocells b q) _ sB.out Try.underlying31 rfl (by rw [l39.out]; exact hi39'.out)) hd6.out ?_
  simp only [Act.put, List.setIfInBounds_toArray, List.set_cons_zero, List.set_cons_succ]
  refine wpAnyH_ready (rs := [18]) (by kernel_rfl) (by simp) ?_
  refine AllReadyH.cons rfl (fun K hK => ?_) AllReadyH.nil
  go_simp
  go_wp2_with (go_at_call 7; refine (cpB.out _ hd6.out).mono ?_; rintro e w7 ⟨⟨qd, rfl, ld⟩, b7⟩; skip)
  have hd7 := Lib.hid (sK.out _ _ hd6.out b7)
  refine hK.out _ _ hd7.out (fun _ => ?_)
  clear hK K
  have sm := same_any w7 b b q qd (inB.out _ hd7.out) ld.objIn hfb'.out
  rw [sameO_self] at sm
  have sm' := Lib.hid sm
  clear ld b7 sm hd6
  refine wpAnyH_ready (rs := [19]) (by kernel_rfl) (by simp) ?_
  refine AllReadyH.cons rfl (fun K hK => ?_) AllReadyH.nil
  go_simp
  go_wp2_with (go_at_call 6; refine sm'.out.mono ?_; rintro e w8 ⟨rfl, b8⟩; skip)
  have hd8 := Lib.hid (sK.out _ _ hd7.out b8)
  refine hK.out _ _ hd8.out (fun _ => ?_)
  clear hK K
  clear b8 sm' hd7
  refine wpAnyH_ready (rs := [20]) (by kernel_rfl) (by simp) ?_
  refine AllReadyH.cons rfl (fun K hK => ?_) AllReadyH.nil
  go_simp
  refine hK.out _ _ hd8.out (fun _ => ?_)
  clear hK K
  refine wpAnyH_ready (rs := [21]) (by kernel_rfl) (by simp) ?_
  refine AllReadyH.cons rfl (fun K hK => ?_) AllReadyH.nil
  go_simp
  refine hK.out _ _ hd8.out (fun _ => ?_)
  clear hK K
  refine wpAnyH_done (by kernel_rfl) ?_ _
  go_wp2_with fail
  go_ret
  exact ⟨rfl, sL.out _ hd8.out⟩
end Go.Proofs.Ytkjndgapejbgcaa
