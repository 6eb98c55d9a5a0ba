/- A tree of roots in memory: even, the ways that turn. (Printed by tools/genrt.py.) -/
import Derived.Test.YtakcnkmlglkkpaaPkR6

namespace Go.Proofs.Ytakcnkmlglkkpaa
open Go.RowKit
set_option linter.unusedSimpArgs false
set_option linter.unusedVariables false

set_option maxRecDepth 100000 in
set_option maxHeartbeats 8000000 in
theorem even_A (w : World) (r : RootT) (lr : RootT) (ll lh : Tr) (h : Tr) (vl vh : Value) (tl0 : TreeAt w (Tr.node lr ll lh) vl) (th0 : TreeAt w (h) vh) (hn : (Tr.node lr ll lh).cnt + (h).cnt ≤ 999000) (h1 : (h).deep + 1 < (Tr.node lr ll lh).deep) (h2 : (lh).deep ≤ ll.deep) :
    Calls Try.prog 56 #[.agg (encR r).toArray, vl, vh] w fun e w' => (∃ v, e = .returned v ∧ TreeAt w' (Tr.node lr ll (.node r lh h)) v) ∧ Below w.heap.size w w' := by
  have hi33 : (Try.prog.info? 61).map (·.size) = some 33 := by kernel_rfl
  have hi33' := Lib.hid hi33
  have l33 : Hid (∀ r : RootT, (encR r).length = 33) := Lib.hid encR_length
  obtain ⟨w0, hw0⟩ : ∃ w0, Hid (∀ _ : Unit, w.alloc (.cells (encR r).toArray 61) = w0) := ⟨_, Lib.hid fun _ => rfl⟩
  have hb0 : Hid (Below w.heap.size w w0) := Lib.hid (by rw [← hw0.out ()]; exact (Below.refl _ _).alloc (Nat.le_refl _) _)
  have hx0 : Hid (w0.heap[w.heap.size]? = some (.cells (encR r).toArray 61 (0, 0))) := Lib.hid (by rw [← hw0.out ()]; exact heap_alloc_new w _)
  have tl : Hid (TreeAt w0 (Tr.node lr ll lh) vl) := Lib.hid (TreeAt.below hb0.out _ _ tl0)
  have th : Hid (TreeAt w0 (h) vh) := Lib.hid (TreeAt.below hb0.out _ _ th0)
  obtain ⟨S0, hS0⟩ : ∃ s, Hid (∀ _ : Unit, w.heap.size = s) := ⟨_, Lib.hid fun _ => rfl⟩
  have sR : Hid (∀ W, Below w0.heap.size w0 W → W.rangeAt S0 0 (encR r)) := Lib.hid fun W hW j v hj => by
    rw [← hS0.out ()]
    have hg := (hW.block w.heap.size (Array.getElem?_eq_some_iff.1 hx0.out).1).trans hx0.out
    rw [Nat.zero_add]
    simp [World.cell?, hg, hj]
  obtain ⟨ah, rfl⟩ := th0.ptr
  clear tl0 th0 hi33
  obtain ⟨gl, v1, v2, hv, hg, _, t1, t2⟩ := tl.out
  cases hv
  obtain ⟨all, rfl⟩ := t1.ptr
  obtain ⟨alh, rfl⟩ := t2.ptr
  have nL : Hid (∀ W, Below w0.heap.size w0 W → NodeAt W gl lr (.pointer all) (.pointer alh) _ _) := Lib.hid fun W hW => NodeAt.below ⟨hg⟩ hW
  have qL : Hid (∀ W, Below w0.heap.size w0 W → W.rangeAt gl 0 (encR lr)) := Lib.hid fun W hW => (nL.out W hW).root
  have tL1 := Lib.hid (fun (W : World) (hW : Below w0.heap.size w0 W) => TreeAt.below hW _ _ t1)
  have tL2 := Lib.hid (fun (W : World) (hW : Below w0.heap.size w0 W) => TreeAt.below hW _ _ t2)
  clear hg t1 t2
  obtain ⟨Dl, hDl⟩ : ∃ D, Hid (∀ _ : Unit, (Tr.node lr ll lh).deep = D) := ⟨_, Lib.hid fun _ => rfl⟩
  obtain ⟨Dh, hDh⟩ : ∃ D, Hid (∀ _ : Unit, (h).deep = D) := ⟨_, Lib.hid fun _ => rfl⟩
  obtain ⟨Da, hDa⟩ : ∃ D, Hid (∀ _ : Unit, (ll).deep = D) := ⟨_, Lib.hid fun _ => rfl⟩
  obtain ⟨Db, hDb⟩ : ∃ D, Hid (∀ _ : Unit, (lh).deep = D) := ⟨_, Lib.hid fun _ => rfl⟩
  have bl := Tr.deep_le (Tr.node lr ll lh)
  have bh := Tr.deep_le (h)
  have ba := Tr.deep_le (ll)
  have bb := Tr.deep_le (lh)
  have hcn : (Tr.node lr ll lh).cnt + (h).cnt ≤ 999000 := hn
  simp only [Tr.cnt] at hcn
  have j0 := Lib.hid (show lh.cnt + h.cnt ≤ 1000000 from by (try simp only [Tr.cnt]); omega)
  have j1 := Lib.hid (show ll.cnt + (Tr.node r lh h).cnt ≤ 1000000 from by (try simp only [Tr.cnt]); omega)
  rw [hDl.out ()] at h1 bl
  rw [hDh.out ()] at h1 bh
  rw [hDa.out ()] at h2 ba
  rw [hDb.out ()] at h2 bb
  have cd1 : Hid (∀ W, Below w0.heap.size w0 W → Calls Try.prog 60 #[.pointer (some ⟨gl, 0, none⟩)] W fun e w' => e = .returned (.int .i64 (Dl : Int)) ∧ W = w') := Lib.hid fun W hW => by have := depth_any W _ _ (TreeAt.below hW _ _ tl.out); rwa [hDl.out ()] at this
  have cd2 : Hid (∀ W, Below w0.heap.size w0 W → Calls Try.prog 60 #[.pointer ah] W fun e w' => e = .returned (.int .i64 (Dh : Int)) ∧ W = w') := Lib.hid fun W hW => by have := depth_any W _ _ (TreeAt.below hW _ _ th.out); rwa [hDh.out ()] at this
  have cd3 : Hid (∀ W, Below w0.heap.size w0 W → Calls Try.prog 60 #[.pointer all] W fun e w' => e = .returned (.int .i64 (Da : Int)) ∧ W = w') := Lib.hid fun W hW => by have := depth_any W _ _ (tL1.out W hW); rwa [hDa.out ()] at this
  have cd4 : Hid (∀ W, Below w0.heap.size w0 W → Calls Try.prog 60 #[.pointer alh] W fun e w' => e = .returned (.int .i64 (Db : Int)) ∧ W = w') := Lib.hid fun W hW => by have := depth_any W _ _ (tL2.out W hW); rwa [hDb.out ()] at this
  have b1 : Dl ≤ 1000000 := by omega
  have b2 : Dh ≤ 1000000 := by omega
  have wl : IntKind.i64.wrap ((Dl : Int) + 1) = (Dl : Int) + 1 := by rw [IntKind.wrap_i64]; omega
  have wh : IntKind.i64.wrap ((Dh : Int) + 1) = (Dh : Int) + 1 := by rw [IntKind.wrap_i64]; omega
  have g1 : (Dh : Int) + 1 < (Dl : Int) := by omega
  have g2 : (Db : Int) ≤ (Da : Int) := by omega
  have z0 : Hid (Below w0.heap.size w0 w0) := Lib.hid (Below.refl _ _)
  have cl1 := (nL.out w0 z0.out).low
  have cl2 := (nL.out w0 z0.out).high
  clear hn bl bh ba bb h1 h2 hcn b1 b2
  go_enter Try.func56, Try.ntmps56
  go_wp2_with fail
  rw [hw0.out (), hS0.out ()]
  go_wp2_with (first | (go_at_call 60; refine (cd1.out _ z0.out).mono ?_; rintro e w' ⟨rfl, rfl⟩) | (go_at_call 60; refine (cd2.out _ z0.out).mono ?_; rintro e w' ⟨rfl, rfl⟩))
  go_quiet ((first | (go_at_call 60; exact Calls.quiet_of_same ((cd3.out _ (below_drewN z0.out _)).mono fun _ _ h => ⟨h.1, h.2.symm⟩)) | (go_at_call 60; exact Calls.quiet_of_same ((cd4.out _ (below_drewN z0.out _)).mono fun _ _ h => ⟨h.1, h.2.symm⟩))))
  go_wp2_with fail
  generalize hwq : World.drewN w0 _ = wq
  have zq : Hid (Below w0.heap.size w0 wq) := Lib.hid (by rw [← hwq]; exact below_drewN z0.out _)
  clear hwq cl1 cl2
  refine wp_region_held (S := fun W => Below w0.heap.size w0 W) (by kernel_rfl) ?_
  change wpAnyH _ _ _ _ _ _ _ _ (World.drew _)
  have d3 : Hid (Below w0.heap.size w0 (World.drew wq)) := Lib.hid (zq.out.trans (below_drewN (Below.refl w0.heap.size _) 1))
  refine takeD (i := 0) (d := 27) (v := .pointer (some ⟨gl, 0, none⟩)) rfl rfl (by kernel_rfl) (by kernel_rfl) (by kernel_rfl) (fun _ _ _ h => h) (Or.inl ⟨by rfl, by intro W hW; clear hW; go_simp⟩) d3.out ?_
  simp only [List.setIfInBounds_toArray, List.set_cons_zero, List.set_cons_succ]
  refine takeD (i := 1) (d := 28) (v := .pointer (some ⟨gl, 0, none⟩)) rfl rfl (by kernel_rfl) (by kernel_rfl) (by kernel_rfl) (fun _ _ _ h => h) (Or.inl ⟨by rfl, by intro W hW; clear hW; go_simp⟩) d3.out ?_
  simp only [List.setIfInBounds_toArray, List.set_cons_zero, List.set_cons_succ]
  refine takeD (i := 2) (d := 29) (v := .pointer (some ⟨gl, 0, none⟩)) rfl rfl (by kernel_rfl) (by kernel_rfl) (by kernel_rfl) (fun _ _ _ h => h) (Or.inl ⟨by rfl, by intro W hW; clear hW; go_simp⟩) d3.out ?_
  simp only [List.setIfInBounds_toArray, List.set_cons_zero, List.set_cons_succ]
  refine takeD (i := 3) (d := 30) rfl rfl (by kernel_rfl) (by kernel_rfl) (by kernel_rfl) (fun _ _ _ h => h) (yieldsIf_load_mid (by rfl) 61 _ rfl gl 0 rfl (encR lr) _ qL.out Try.underlying61 rfl (by rw [l33.out]; exact hi33'.out)) d3.out ?_
  simp only [List.setIfInBounds_toArray, List.set_cons_zero, List.set_cons_succ]
  refine takeD (i := 4) (d := 31) (v := .pointer (some ⟨gl, 0, none⟩)) rfl rfl (by kernel_rfl) (by kernel_rfl) (by kernel_rfl) (fun _ _ _ h => h) (Or.inl ⟨by rfl, by intro W hW; clear hW; go_simp⟩) d3.out ?_
  simp only [List.setIfInBounds_toArray, List.set_cons_zero, List.set_cons_succ]
  refine takeD (i := 5) (d := 32) (v := .pointer (some ⟨gl, 0, none⟩)) rfl rfl (by kernel_rfl) (by kernel_rfl) (by kernel_rfl) (fun _ _ _ h => h) (Or.inl ⟨by rfl, by intro W hW; clear hW; go_simp⟩) d3.out ?_
  simp only [List.setIfInBounds_toArray, List.set_cons_zero, List.set_cons_succ]
  refine takeD (i := 6) (d := 33) (v := .pointer (some ⟨gl, 33, none⟩)) rfl rfl (by kernel_rfl) (by kernel_rfl) (by kernel_rfl) (fun _ _ _ h => h) (Or.inl ⟨by rfl, by intro W hW; clear hW; go_simp⟩) d3.out ?_
  simp only [List.setIfInBounds_toArray, List.set_cons_zero, List.set_cons_succ]
  refine takeD (i := 7) (d := 34) (v := .pointer all) rfl rfl (by kernel_rfl) (by kernel_rfl) (by kernel_rfl) (fun _ _ _ h => h) (Or.inl ⟨by rfl, by intro W hW; have cc := (nL.out W hW).low; clear hW; go_simp⟩) d3.out ?_
  simp only [List.setIfInBounds_toArray, List.set_cons_zero, List.set_cons_succ]
  refine takeD (i := 8) (d := 35) rfl rfl (by kernel_rfl) (by kernel_rfl) (by kernel_rfl) (fun _ _ _ h => h) (yieldsIf_load_mid (by rfl) 61 _ rfl S0 0 rfl (encR r) _ sR.out Try.underlying61 rfl (by rw [l33.out]; exact hi33'.out)) d3.out ?_
  simp only [List.setIfInBounds_toArray, List.set_cons_zero, List.set_cons_succ]
  refine takeD (i := 9) (d := 36) (v := .pointer (some ⟨gl, 0, none⟩)) rfl rfl (by kernel_rfl) (by kernel_rfl) (by kernel_rfl) (fun _ _ _ h => h) (Or.inl ⟨by rfl, by intro W hW; clear hW; go_simp⟩) d3.out ?_
  simp only [List.setIfInBounds_toArray, List.set_cons_zero, List.set_cons_succ]
  refine takeD (i := 10) (d := 37) (v := .pointer (some ⟨gl, 0, none⟩)) rfl rfl (by kernel_rfl) (by kernel_rfl) (by kernel_rfl) (fun _ _ _ h => h) (Or.inl ⟨by rfl, by intro W hW; clear hW; go_simp⟩) d3.out ?_
  simp only [List.setIfInBounds_toArray, List.set_cons_zero, List.set_cons_succ]
  refine takeD (i := 11) (d := 38) (v := .pointer (some ⟨gl, 34, none⟩)) rfl rfl (by kernel_rfl) (by kernel_rfl) (by kernel_rfl) (fun _ _ _ h => h) (Or.inl ⟨by rfl, by intro W hW; clear hW; go_simp⟩) d3.out ?_
  simp only [List.setIfInBounds_toArray, List.set_cons_zero, List.set_cons_succ]
  refine takeD (i := 12) (d := 39) (v := .pointer alh) rfl rfl (by kernel_rfl) (by kernel_rfl) (by kernel_rfl) (fun _ _ _ h => h) (Or.inl ⟨by rfl, by intro W hW; have cc := (nL.out W hW).high; clear hW; go_simp⟩) d3.out ?_
  simp only [List.setIfInBounds_toArray, List.set_cons_zero, List.set_cons_succ]
  refine takeD (i := 13) (d := 40) (v := .pointer ah) rfl rfl (by kernel_rfl) (by kernel_rfl) (by kernel_rfl) (fun _ _ _ h => h) (Or.inl ⟨by rfl, by intro W hW; clear hW; go_simp⟩) d3.out ?_
  simp only [List.setIfInBounds_toArray, List.set_cons_zero, List.set_cons_succ]
  refine wpAnyH_ready (rs := [14]) (by kernel_rfl) (by simp) ?_
  refine AllReadyH.cons rfl (fun K hK => ?_) AllReadyH.nil
  go_simp
  go_wp2_with (go_at_call 55; refine (join_any _ r lh h _ _ (tL2.out _ d3.out) (TreeAt.below d3.out _ _ th.out) j0.out).mono ?_; rintro e w1 ⟨⟨v1, rfl, t1⟩, b1⟩; skip)
  have e1 : Hid (Below w0.heap.size w0 w1) := Lib.hid (d3.out.trans (b1.mono d3.out.size))
  have s1 := Lib.hid t1
  clear t1 b1
  refine hK.out _ _ e1.out (fun _ => ?_)
  clear hK K
  refine wpAnyH_ready (rs := [15]) (by kernel_rfl) (by simp) ?_
  refine AllReadyH.cons rfl (fun K hK => ?_) AllReadyH.nil
  go_simp
  go_wp2_with (go_at_call 55; refine (join_any _ lr ll (.node r lh h) _ _ (tL1.out _ e1.out) s1.out j1.out).mono ?_; rintro e w2 ⟨⟨v2, rfl, t2⟩, b2⟩; skip)
  have e2 : Hid (Below w0.heap.size w0 w2) := Lib.hid (e1.out.trans (b2.mono e1.out.size))
  have s2 := Lib.hid t2
  clear t2 b2
  refine hK.out _ _ e2.out (fun _ => ?_)
  clear hK K
  refine wpAnyH_ready (rs := [16]) (by kernel_rfl) (by simp) ?_
  refine AllReadyH.cons rfl (fun K hK => ?_) AllReadyH.nil
  go_simp
  refine hK.out _ _ e2.out (fun _ => ?_)
  clear hK K
  refine wpAnyH_done (by kernel_rfl) ?_ _
  go_wp2_with fail
  go_ret
  cases hS0.out ()
  exact ⟨⟨_, rfl, s2.out⟩, hb0.out.trans (e2.out.mono hb0.out.size)⟩
end Go.Proofs.Ytakcnkmlglkkpaa
