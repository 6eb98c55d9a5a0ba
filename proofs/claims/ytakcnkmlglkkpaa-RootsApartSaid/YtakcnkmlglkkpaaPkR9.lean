/- A tree of roots in memory: even, the ways that turn. (Printed by tools/genrt.py.) -/
import Derived.Test.YtakcnkmlglkkpaaPkR6

namespace Go.Proofs.Ytakcnkmlglkkpaa
open Go.RowKit
set_option linter.unusedSimpArgs false
set_option linter.unusedVariables false

set_option maxRecDepth 100000 in
set_option maxHeartbeats 8000000 in
theorem even_C (w : World) (r : RootT) (l : Tr) (hr : RootT) (hl hh : Tr) (vl vh : Value) (tl0 : TreeAt w (l) vl) (th0 : TreeAt w (Tr.node hr hl hh) vh) (hn : (l).cnt + (Tr.node hr hl hh).cnt ≤ 999000) (h1 : (l).deep + 1 < (Tr.node hr hl hh).deep) (h2 : (hl).deep ≤ hh.deep) :
    Calls Try.prog 56 #[.agg (encR r).toArray, vl, vh] w fun e w' => (∃ v, e = .returned v ∧ TreeAt w' (Tr.node hr (.node r l hl) hh) v) ∧ Below w.heap.size w w' := by
  have hi33 : (Try.prog.info? 61).map (·.size) = some 33 := by kernel_rfl
  have hi33' := Lib.hid hi33
  have l33 : Hid (∀ r : RootT, (encR r).length = 33) := Lib.hid encR_length
  obtain ⟨w0, hw0⟩ : ∃ w0, Hid (∀ _ : Unit, w.alloc (.cells (encR r).toArray 61) = w0) := ⟨_, Lib.hid fun _ => rfl⟩
  have hb0 : Hid (Below w.heap.size w w0) := Lib.hid (by rw [← hw0.out ()]; exact (Below.refl _ _).alloc (Nat.le_refl _) _)
  have hx0 : Hid (w0.heap[w.heap.size]? = some (.cells (encR r).toArray 61 (0, 0))) := Lib.hid (by rw [← hw0.out ()]; exact heap_alloc_new w _)
  have tl : Hid (TreeAt w0 (l) vl) := Lib.hid (TreeAt.below hb0.out _ _ tl0)
  have th : Hid (TreeAt w0 (Tr.node hr hl hh) vh) := Lib.hid (TreeAt.below hb0.out _ _ th0)
  obtain ⟨S0, hS0⟩ : ∃ s, Hid (∀ _ : Unit, w.heap.size = s) := ⟨_, Lib.hid fun _ => rfl⟩
  have sR : Hid (∀ W, Below w0.heap.size w0 W → W.rangeAt S0 0 (encR r)) := Lib.hid fun W hW j v hj => by
    rw [← hS0.out ()]
    have hg := (hW.block w.heap.size (Array.getElem?_eq_some_iff.1 hx0.out).1).trans hx0.out
    rw [Nat.zero_add]
    simp [World.cell?, hg, hj]
  obtain ⟨al, rfl⟩ := tl0.ptr
  clear tl0 th0 hi33
  obtain ⟨gl, v1, v2, hv, hg, _, t1, t2⟩ := th.out
  cases hv
  obtain ⟨all, rfl⟩ := t1.ptr
  obtain ⟨alh, rfl⟩ := t2.ptr
  have nL : Hid (∀ W, Below w0.heap.size w0 W → NodeAt W gl hr (.pointer all) (.pointer alh) _ _) := Lib.hid fun W hW => NodeAt.below ⟨hg⟩ hW
  have qL : Hid (∀ W, Below w0.heap.size w0 W → W.rangeAt gl 0 (encR hr)) := Lib.hid fun W hW => (nL.out W hW).root
  have tL1 := Lib.hid (fun (W : World) (hW : Below w0.heap.size w0 W) => TreeAt.below hW _ _ t1)
  have tL2 := Lib.hid (fun (W : World) (hW : Below w0.heap.size w0 W) => TreeAt.below hW _ _ t2)
  clear hg t1 t2
  obtain ⟨Dl, hDl⟩ : ∃ D, Hid (∀ _ : Unit, (l).deep = D) := ⟨_, Lib.hid fun _ => rfl⟩
  obtain ⟨Dh, hDh⟩ : ∃ D, Hid (∀ _ : Unit, (Tr.node hr hl hh).deep = D) := ⟨_, Lib.hid fun _ => rfl⟩
  obtain ⟨Da, hDa⟩ : ∃ D, Hid (∀ _ : Unit, (hh).deep = D) := ⟨_, Lib.hid fun _ => rfl⟩
  obtain ⟨Db, hDb⟩ : ∃ D, Hid (∀ _ : Unit, (hl).deep = D) := ⟨_, Lib.hid fun _ => rfl⟩
  have bl := Tr.deep_le (l)
  have bh := Tr.deep_le (Tr.node hr hl hh)
  have ba := Tr.deep_le (hh)
  have bb := Tr.deep_le (hl)
  have hcn : (l).cnt + (Tr.node hr hl hh).cnt ≤ 999000 := hn
  simp only [Tr.cnt] at hcn
  have j0 := Lib.hid (show l.cnt + hl.cnt ≤ 1000000 from by (try simp only [Tr.cnt]); omega)
  have j1 := Lib.hid (show (Tr.node r l hl).cnt + hh.cnt ≤ 1000000 from by (try simp only [Tr.cnt]); omega)
  rw [hDl.out ()] at h1 bl
  rw [hDh.out ()] at h1 bh
  rw [hDa.out ()] at h2 ba
  rw [hDb.out ()] at h2 bb
  have cd1 : Hid (∀ W, Below w0.heap.size w0 W → Calls Try.prog 60 #[.pointer al] W fun e w' => e = .returned (.int .i64 (Dl : Int)) ∧ W = w') := Lib.hid fun W hW => by have := depth_any W _ _ (TreeAt.below hW _ _ tl.out); rwa [hDl.out ()] at this
  have cd2 : Hid (∀ W, Below w0.heap.size w0 W → Calls Try.prog 60 #[.pointer (some ⟨gl, 0, none⟩)] W fun e w' => e = .returned (.int .i64 (Dh : Int)) ∧ W = w') := Lib.hid fun W hW => by have := depth_any W _ _ (TreeAt.below hW _ _ th.out); rwa [hDh.out ()] at this
  have cd3 : Hid (∀ W, Below w0.heap.size w0 W → Calls Try.prog 60 #[.pointer alh] W fun e w' => e = .returned (.int .i64 (Da : Int)) ∧ W = w') := Lib.hid fun W hW => by have := depth_any W _ _ (tL2.out W hW); rwa [hDa.out ()] at this
  have cd4 : Hid (∀ W, Below w0.heap.size w0 W → Calls Try.prog 60 #[.pointer all] W fun e w' => e = .returned (.int .i64 (Db : Int)) ∧ W = w') := Lib.hid fun W hW => by have := depth_any W _ _ (tL1.out W hW); rwa [hDb.out ()] at this
  have b1 : Dl ≤ 1000000 := by omega
  have b2 : Dh ≤ 1000000 := by omega
  have wl : IntKind.i64.wrap ((Dl : Int) + 1) = (Dl : Int) + 1 := by rw [IntKind.wrap_i64]; omega
  have wh : IntKind.i64.wrap ((Dh : Int) + 1) = (Dh : Int) + 1 := by rw [IntKind.wrap_i64]; omega
  have g1 : ¬ (Dh : Int) + 1 < (Dl : Int) := by omega
  have g0 : (Dl : Int) + 1 < (Dh : Int) := by omega
  have g2 : (Db : Int) ≤ (Da : Int) := by omega
  have z0 : Hid (Below w0.heap.size w0 w0) := Lib.hid (Below.refl _ _)
  have cl1 := (nL.out w0 z0.out).low
  have cl2 := (nL.out w0 z0.out).high
  clear hn bl bh ba bb h1 h2 hcn b1 b2
  go_enter Try.func56, Try.ntmps56
  go_wp2_with fail
  rw [hw0.out (), hS0.out ()]
  go_wp2_with (first | (go_at_call 60; refine (cd1.out _ z0.out).mono ?_; rintro e w' ⟨rfl, rfl⟩) | (go_at_call 60; refine (cd2.out _ z0.out).mono ?_; rintro e w' ⟨rfl, rfl⟩))
  go_quiet ((first | (go_at_call 60; exact Calls.quiet_of_same ((cd3.out _ (below_drewN z0.out _)).mono fun _ _ h => ⟨h.1, h.2.symm⟩)) | (go_at_call 60; exact Calls.quiet_of_same ((cd4.out _ (below_drewN z0.out _)).mono fun _ _ h => ⟨h.1, h.2.symm⟩))))
  go_wp2_with fail
  generalize hwq : World.drewN w0 _ = wq
  have zq : Hid (Below w0.heap.size w0 wq) := Lib.hid (by rw [← hwq]; exact below_drewN z0.out _)
  clear hwq cl1 cl2
  refine wp_region_held (S := fun W => Below w0.heap.size w0 W) (by kernel_rfl) ?_
  change wpAnyH _ _ _ _ _ _ _ _ (World.drew _)
  have d8 : Hid (Below w0.heap.size w0 (World.drew wq)) := Lib.hid (zq.out.trans (below_drewN (Below.refl w0.heap.size _) 1))
  refine takeD (i := 0) (d := 90) (v := .pointer (some ⟨gl, 0, none⟩)) rfl rfl (by kernel_rfl) (by kernel_rfl) (by kernel_rfl) (fun _ _ _ h => h) (Or.inl ⟨by rfl, by intro W hW; clear hW; go_simp⟩) d8.out ?_
  simp only [List.setIfInBounds_toArray, List.set_cons_zero, List.set_cons_succ]
  refine takeD (i := 1) (d := 91) (v := .pointer (some ⟨gl, 0, none⟩)) rfl rfl (by kernel_rfl) (by kernel_rfl) (by kernel_rfl) (fun _ _ _ h => h) (Or.inl ⟨by rfl, by intro W hW; clear hW; go_simp⟩) d8.out ?_
  simp only [List.setIfInBounds_toArray, List.set_cons_zero, List.set_cons_succ]
  refine takeD (i := 2) (d := 92) (v := .pointer (some ⟨gl, 0, none⟩)) rfl rfl (by kernel_rfl) (by kernel_rfl) (by kernel_rfl) (fun _ _ _ h => h) (Or.inl ⟨by rfl, by intro W hW; clear hW; go_simp⟩) d8.out ?_
  simp only [List.setIfInBounds_toArray, List.set_cons_zero, List.set_cons_succ]
  refine takeD (i := 3) (d := 93) rfl rfl (by kernel_rfl) (by kernel_rfl) (by kernel_rfl) (fun _ _ _ h => h) (yieldsIf_load_mid (by rfl) 61 _ rfl gl 0 rfl (encR hr) _ qL.out Try.underlying61 rfl (by rw [l33.out]; exact hi33'.out)) d8.out ?_
  simp only [List.setIfInBounds_toArray, List.set_cons_zero, List.set_cons_succ]
  refine takeD (i := 4) (d := 94) rfl rfl (by kernel_rfl) (by kernel_rfl) (by kernel_rfl) (fun _ _ _ h => h) (yieldsIf_load_mid (by rfl) 61 _ rfl S0 0 rfl (encR r) _ sR.out Try.underlying61 rfl (by rw [l33.out]; exact hi33'.out)) d8.out ?_
  simp only [List.setIfInBounds_toArray, List.set_cons_zero, List.set_cons_succ]
  refine takeD (i := 5) (d := 95) (v := .pointer al) rfl rfl (by kernel_rfl) (by kernel_rfl) (by kernel_rfl) (fun _ _ _ h => h) (Or.inl ⟨by rfl, by intro W hW; clear hW; go_simp⟩) d8.out ?_
  simp only [List.setIfInBounds_toArray, List.set_cons_zero, List.set_cons_succ]
  refine takeD (i := 6) (d := 96) (v := .pointer (some ⟨gl, 0, none⟩)) rfl rfl (by kernel_rfl) (by kernel_rfl) (by kernel_rfl) (fun _ _ _ h => h) (Or.inl ⟨by rfl, by intro W hW; clear hW; go_simp⟩) d8.out ?_
  simp only [List.setIfInBounds_toArray, List.set_cons_zero, List.set_cons_succ]
  refine takeD (i := 7) (d := 97) (v := .pointer (some ⟨gl, 0, none⟩)) rfl rfl (by kernel_rfl) (by kernel_rfl) (by kernel_rfl) (fun _ _ _ h => h) (Or.inl ⟨by rfl, by intro W hW; clear hW; go_simp⟩) d8.out ?_
  simp only [List.setIfInBounds_toArray, List.set_cons_zero, List.set_cons_succ]
  refine takeD (i := 8) (d := 98) (v := .pointer (some ⟨gl, 33, none⟩)) rfl rfl (by kernel_rfl) (by kernel_rfl) (by kernel_rfl) (fun _ _ _ h => h) (Or.inl ⟨by rfl, by intro W hW; clear hW; go_simp⟩) d8.out ?_
  simp only [List.setIfInBounds_toArray, List.set_cons_zero, List.set_cons_succ]
  refine takeD (i := 9) (d := 99) (v := .pointer all) rfl rfl (by kernel_rfl) (by kernel_rfl) (by kernel_rfl) (fun _ _ _ h => h) (Or.inl ⟨by rfl, by intro W hW; have cc := (nL.out W hW).low; clear hW; go_simp⟩) d8.out ?_
  simp only [List.setIfInBounds_toArray, List.set_cons_zero, List.set_cons_succ]
  refine takeD (i := 11) (d := 101) (v := .pointer (some ⟨gl, 0, none⟩)) rfl rfl (by kernel_rfl) (by kernel_rfl) (by kernel_rfl) (fun _ _ _ h => h) (Or.inl ⟨by rfl, by intro W hW; clear hW; go_simp⟩) d8.out ?_
  simp only [List.setIfInBounds_toArray, List.set_cons_zero, List.set_cons_succ]
  refine takeD (i := 12) (d := 102) (v := .pointer (some ⟨gl, 0, none⟩)) rfl rfl (by kernel_rfl) (by kernel_rfl) (by kernel_rfl) (fun _ _ _ h => h) (Or.inl ⟨by rfl, by intro W hW; clear hW; go_simp⟩) d8.out ?_
  simp only [List.setIfInBounds_toArray, List.set_cons_zero, List.set_cons_succ]
  refine takeD (i := 13) (d := 103) (v := .pointer (some ⟨gl, 34, none⟩)) rfl rfl (by kernel_rfl) (by kernel_rfl) (by kernel_rfl) (fun _ _ _ h => h) (Or.inl ⟨by rfl, by intro W hW; clear hW; go_simp⟩) d8.out ?_
  simp only [List.setIfInBounds_toArray, List.set_cons_zero, List.set_cons_succ]
  refine takeD (i := 14) (d := 104) (v := .pointer alh) rfl rfl (by kernel_rfl) (by kernel_rfl) (by kernel_rfl) (fun _ _ _ h => h) (Or.inl ⟨by rfl, by intro W hW; have cc := (nL.out W hW).high; clear hW; go_simp⟩) d8.out ?_
  simp only [List.setIfInBounds_toArray, List.set_cons_zero, List.set_cons_succ]
  refine wpAnyH_ready (rs := [10]) (by kernel_rfl) (by simp) ?_
  refine AllReadyH.cons rfl (fun K hK => ?_) AllReadyH.nil
  go_simp
  go_wp2_with (go_at_call 55; refine (join_any _ r l hl _ _ (TreeAt.below d8.out _ _ tl.out) (tL1.out _ d8.out) j0.out).mono ?_; rintro e w1 ⟨⟨v1, rfl, t1⟩, b1⟩; skip)
  have e1 : Hid (Below w0.heap.size w0 w1) := Lib.hid (d8.out.trans (b1.mono d8.out.size))
  have s1 := Lib.hid t1
  clear t1 b1
  refine hK.out _ _ e1.out (fun _ => ?_)
  clear hK K
  refine wpAnyH_ready (rs := [15]) (by kernel_rfl) (by simp) ?_
  refine AllReadyH.cons rfl (fun K hK => ?_) AllReadyH.nil
  go_simp
  go_wp2_with (go_at_call 55; refine (join_any _ hr (.node r l hl) hh _ _ s1.out (tL2.out _ e1.out) j1.out).mono ?_; rintro e w2 ⟨⟨v2, rfl, t2⟩, b2⟩; skip)
  have e2 : Hid (Below w0.heap.size w0 w2) := Lib.hid (e1.out.trans (b2.mono e1.out.size))
  have s2 := Lib.hid t2
  clear t2 b2
  refine hK.out _ _ e2.out (fun _ => ?_)
  clear hK K
  refine wpAnyH_ready (rs := [16]) (by kernel_rfl) (by simp) ?_
  refine AllReadyH.cons rfl (fun K hK => ?_) AllReadyH.nil
  go_simp
  refine hK.out _ _ e2.out (fun _ => ?_)
  clear hK K
  refine wpAnyH_done (by kernel_rfl) ?_ _
  go_wp2_with fail
  go_ret
  cases hS0.out ()
  exact ⟨⟨_, rfl, s2.out⟩, hb0.out.trans (e2.out.mono hb0.out.size)⟩
end Go.Proofs.Ytakcnkmlglkkpaa
