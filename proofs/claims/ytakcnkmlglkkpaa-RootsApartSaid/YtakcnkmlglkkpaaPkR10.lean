/- A tree of roots in memory: even, the ways that turn. (Printed by tools/genrt.py.) A tree of roots in memory: even, whatever turns. -/
import Derived.Test.YtakcnkmlglkkpaaPkR6
import Derived.Test.YtakcnkmlglkkpaaPkR7
import Derived.Test.YtakcnkmlglkkpaaPkR8
import Derived.Test.YtakcnkmlglkkpaaPkR9

namespace Go.Proofs.Ytakcnkmlglkkpaa
open Go.RowKit
set_option linter.unusedSimpArgs false
set_option linter.unusedVariables false

set_option maxRecDepth 100000 in
set_option maxHeartbeats 8000000 in
theorem even_D (w : World) (r : RootT) (l : Tr) (hr : RootT) (mr : RootT) (ml mh : Tr) (hh : Tr) (vl vh : Value) (tl0 : TreeAt w (l) vl) (th0 : TreeAt w (Tr.node hr (.node mr ml mh) hh) vh) (hn : (l).cnt + (Tr.node hr (.node mr ml mh) hh).cnt ≤ 999000) (h1 : (l).deep + 1 < (Tr.node hr (.node mr ml mh) hh).deep) (h2 : ¬ (Tr.node mr ml mh).deep ≤ hh.deep) :
    Calls Try.prog 56 #[.agg (encR r).toArray, vl, vh] w fun e w' => (∃ v, e = .returned v ∧ TreeAt w' (Tr.node mr (.node r l ml) (.node hr mh hh)) v) ∧ Below w.heap.size w w' := by
  have hi33 : (Try.prog.info? 61).map (·.size) = some 33 := by kernel_rfl
  have hi33' := Lib.hid hi33
  have l33 : Hid (∀ r : RootT, (encR r).length = 33) := Lib.hid encR_length
  obtain ⟨w0, hw0⟩ : ∃ w0, Hid (∀ _ : Unit, w.alloc (.cells (encR r).toArray 61) = w0) := ⟨_, Lib.hid fun _ => rfl⟩
  have hb0 : Hid (Below w.heap.size w w0) := Lib.hid (by rw [← hw0.out ()]; exact (Below.refl _ _).alloc (Nat.le_refl _) _)
  have hx0 : Hid (w0.heap[w.heap.size]? = some (.cells (encR r).toArray 61 (0, 0))) := Lib.hid (by rw [← hw0.out ()]; exact heap_alloc_new w _)
  have tl : Hid (TreeAt w0 (l) vl) := Lib.hid (TreeAt.below hb0.out _ _ tl0)
  have th : Hid (TreeAt w0 (Tr.node hr (.node mr ml mh) hh) vh) := Lib.hid (TreeAt.below hb0.out _ _ th0)
  obtain ⟨S0, hS0⟩ : ∃ s, Hid (∀ _ : Unit, w.heap.size = s) := ⟨_, Lib.hid fun _ => rfl⟩
  have sR : Hid (∀ W, Below w0.heap.size w0 W → W.rangeAt S0 0 (encR r)) := Lib.hid fun W hW j v hj => by
    rw [← hS0.out ()]
    have hg := (hW.block w.heap.size (Array.getElem?_eq_some_iff.1 hx0.out).1).trans hx0.out
    rw [Nat.zero_add]
    simp [World.cell?, hg, hj]
  obtain ⟨al, rfl⟩ := tl0.ptr
  clear tl0 th0 hi33
  obtain ⟨gl, v1, v2, hv, hg, _, t1, t2⟩ := th.out
  cases hv
  obtain ⟨all, rfl⟩ := t1.ptr
  obtain ⟨alh, rfl⟩ := t2.ptr
  have nL : Hid (∀ W, Below w0.heap.size w0 W → NodeAt W gl hr (.pointer all) (.pointer alh) _ _) := Lib.hid fun W hW => NodeAt.below ⟨hg⟩ hW
  have qL : Hid (∀ W, Below w0.heap.size w0 W → W.rangeAt gl 0 (encR hr)) := Lib.hid fun W hW => (nL.out W hW).root
  have tL1 := Lib.hid (fun (W : World) (hW : Below w0.heap.size w0 W) => TreeAt.below hW _ _ t1)
  have tL2 := Lib.hid (fun (W : World) (hW : Below w0.heap.size w0 W) => TreeAt.below hW _ _ t2)
  clear hg t1 t2
  have tm : Hid (TreeAt w0 (.node mr ml mh) (.pointer all)) := Lib.hid (tL1.out _ (Below.refl _ _))
  obtain ⟨gm, v1, v2, hv, hg, _, t1, t2⟩ := tm.out
  cases hv
  obtain ⟨aml, rfl⟩ := t1.ptr
  obtain ⟨amh, rfl⟩ := t2.ptr
  have nM : Hid (∀ W, Below w0.heap.size w0 W → NodeAt W gm mr (.pointer aml) (.pointer amh) _ _) := Lib.hid fun W hW => NodeAt.below ⟨hg⟩ hW
  have qM : Hid (∀ W, Below w0.heap.size w0 W → W.rangeAt gm 0 (encR mr)) := Lib.hid fun W hW => (nM.out W hW).root
  have tM1 := Lib.hid (fun (W : World) (hW : Below w0.heap.size w0 W) => TreeAt.below hW _ _ t1)
  have tM2 := Lib.hid (fun (W : World) (hW : Below w0.heap.size w0 W) => TreeAt.below hW _ _ t2)
  clear hg t1 t2
  obtain ⟨Dl, hDl⟩ : ∃ D, Hid (∀ _ : Unit, (l).deep = D) := ⟨_, Lib.hid fun _ => rfl⟩
  obtain ⟨Dh, hDh⟩ : ∃ D, Hid (∀ _ : Unit, (Tr.node hr (.node mr ml mh) hh).deep = D) := ⟨_, Lib.hid fun _ => rfl⟩
  obtain ⟨Da, hDa⟩ : ∃ D, Hid (∀ _ : Unit, (hh).deep = D) := ⟨_, Lib.hid fun _ => rfl⟩
  obtain ⟨Db, hDb⟩ : ∃ D, Hid (∀ _ : Unit, (Tr.node mr ml mh).deep = D) := ⟨_, Lib.hid fun _ => rfl⟩
  have bl := Tr.deep_le (l)
  have bh := Tr.deep_le (Tr.node hr (.node mr ml mh) hh)
  have ba := Tr.deep_le (hh)
  have bb := Tr.deep_le (Tr.node mr ml mh)
  have hcn : (l).cnt + (Tr.node hr (.node mr ml mh) hh).cnt ≤ 999000 := hn
  simp only [Tr.cnt] at hcn
  have j0 := Lib.hid (show l.cnt + ml.cnt ≤ 1000000 from by (try simp only [Tr.cnt]); omega)
  have j1 := Lib.hid (show mh.cnt + hh.cnt ≤ 1000000 from by (try simp only [Tr.cnt]); omega)
  have j2 := Lib.hid (show (Tr.node r l ml).cnt + (Tr.node hr mh hh).cnt ≤ 1000000 from by (try simp only [Tr.cnt]); omega)
  rw [hDl.out ()] at h1 bl
  rw [hDh.out ()] at h1 bh
  rw [hDa.out ()] at h2 ba
  rw [hDb.out ()] at h2 bb
  have cd1 : Hid (∀ W, Below w0.heap.size w0 W → Calls Try.prog 60 #[.pointer al] W fun e w' => e = .returned (.int .i64 (Dl : Int)) ∧ W = w') := Lib.hid fun W hW => by have := depth_any W _ _ (TreeAt.below hW _ _ tl.out); rwa [hDl.out ()] at this
  have cd2 : Hid (∀ W, Below w0.heap.size w0 W → Calls Try.prog 60 #[.pointer (some ⟨gl, 0, none⟩)] W fun e w' => e = .returned (.int .i64 (Dh : Int)) ∧ W = w') := Lib.hid fun W hW => by have := depth_any W _ _ (TreeAt.below hW _ _ th.out); rwa [hDh.out ()] at this
  have cd3 : Hid (∀ W, Below w0.heap.size w0 W → Calls Try.prog 60 #[.pointer alh] W fun e w' => e = .returned (.int .i64 (Da : Int)) ∧ W = w') := Lib.hid fun W hW => by have := depth_any W _ _ (tL2.out W hW); rwa [hDa.out ()] at this
  have cd4 : Hid (∀ W, Below w0.heap.size w0 W → Calls Try.prog 60 #[.pointer (some ⟨gm, 0, none⟩)] W fun e w' => e = .returned (.int .i64 (Db : Int)) ∧ W = w') := Lib.hid fun W hW => by have := depth_any W _ _ (tL1.out W hW); rwa [hDb.out ()] at this
  have b1 : Dl ≤ 1000000 := by omega
  have b2 : Dh ≤ 1000000 := by omega
  have wl : IntKind.i64.wrap ((Dl : Int) + 1) = (Dl : Int) + 1 := by rw [IntKind.wrap_i64]; omega
  have wh : IntKind.i64.wrap ((Dh : Int) + 1) = (Dh : Int) + 1 := by rw [IntKind.wrap_i64]; omega
  have g1 : ¬ (Dh : Int) + 1 < (Dl : Int) := by omega
  have g0 : (Dl : Int) + 1 < (Dh : Int) := by omega
  have g2 : ¬ (Db : Int) ≤ (Da : Int) := by omega
  have z0 : Hid (Below w0.heap.size w0 w0) := Lib.hid (Below.refl _ _)
  have cl1 := (nL.out w0 z0.out).low
  have cl2 := (nL.out w0 z0.out).high
  clear hn bl bh ba bb h1 h2 hcn b1 b2
  go_enter Try.func56, Try.ntmps56
  go_wp2_with fail
  rw [hw0.out (), hS0.out ()]
  go_wp2_with (first | (go_at_call 60; refine (cd1.out _ z0.out).mono ?_; rintro e w' ⟨rfl, rfl⟩) | (go_at_call 60; refine (cd2.out _ z0.out).mono ?_; rintro e w' ⟨rfl, rfl⟩))
  go_quiet ((first | (go_at_call 60; exact Calls.quiet_of_same ((cd3.out _ (below_drewN z0.out _)).mono fun _ _ h => ⟨h.1, h.2.symm⟩)) | (go_at_call 60; exact Calls.quiet_of_same ((cd4.out _ (below_drewN z0.out _)).mono fun _ _ h => ⟨h.1, h.2.symm⟩))))
  go_wp2_with fail
  generalize hwq : World.drewN w0 _ = wq
  have zq : Hid (Below w0.heap.size w0 wq) := Lib.hid (by rw [← hwq]; exact below_drewN z0.out _)
  clear hwq cl1 cl2
  refine wp_region_held (S := fun W => Below w0.heap.size w0 W) (by kernel_rfl) ?_
  change wpAnyH _ _ _ _ _ _ _ _ (World.drew _)
  have d10 : Hid (Below w0.heap.size w0 (World.drew wq)) := Lib.hid (zq.out.trans (below_drewN (Below.refl w0.heap.size _) 1))
  refine takeD (i := 0) (d := 110) (v := .pointer (some ⟨gm, 0, none⟩)) rfl rfl (by kernel_rfl) (by kernel_rfl) (by kernel_rfl) (fun _ _ _ h => h) (Or.inl ⟨by rfl, by intro W hW; clear hW; go_simp⟩) d10.out ?_
  simp only [List.setIfInBounds_toArray, List.set_cons_zero, List.set_cons_succ]
  refine takeD (i := 1) (d := 111) (v := .pointer (some ⟨gm, 0, none⟩)) rfl rfl (by kernel_rfl) (by kernel_rfl) (by kernel_rfl) (fun _ _ _ h => h) (Or.inl ⟨by rfl, by intro W hW; clear hW; go_simp⟩) d10.out ?_
  simp only [List.setIfInBounds_toArray, List.set_cons_zero, List.set_cons_succ]
  refine takeD (i := 2) (d := 112) (v := .pointer (some ⟨gm, 0, none⟩)) rfl rfl (by kernel_rfl) (by kernel_rfl) (by kernel_rfl) (fun _ _ _ h => h) (Or.inl ⟨by rfl, by intro W hW; clear hW; go_simp⟩) d10.out ?_
  simp only [List.setIfInBounds_toArray, List.set_cons_zero, List.set_cons_succ]
  refine takeD (i := 3) (d := 113) rfl rfl (by kernel_rfl) (by kernel_rfl) (by kernel_rfl) (fun _ _ _ h => h) (yieldsIf_load_mid (by rfl) 61 _ rfl gm 0 rfl (encR mr) _ qM.out Try.underlying61 rfl (by rw [l33.out]; exact hi33'.out)) d10.out ?_
  simp only [List.setIfInBounds_toArray, List.set_cons_zero, List.set_cons_succ]
  refine takeD (i := 4) (d := 114) rfl rfl (by kernel_rfl) (by kernel_rfl) (by kernel_rfl) (fun _ _ _ h => h) (yieldsIf_load_mid (by rfl) 61 _ rfl S0 0 rfl (encR r) _ sR.out Try.underlying61 rfl (by rw [l33.out]; exact hi33'.out)) d10.out ?_
  simp only [List.setIfInBounds_toArray, List.set_cons_zero, List.set_cons_succ]
  refine takeD (i := 5) (d := 115) (v := .pointer al) rfl rfl (by kernel_rfl) (by kernel_rfl) (by kernel_rfl) (fun _ _ _ h => h) (Or.inl ⟨by rfl, by intro W hW; clear hW; go_simp⟩) d10.out ?_
  simp only [List.setIfInBounds_toArray, List.set_cons_zero, List.set_cons_succ]
  refine takeD (i := 6) (d := 116) (v := .pointer (some ⟨gm, 0, none⟩)) rfl rfl (by kernel_rfl) (by kernel_rfl) (by kernel_rfl) (fun _ _ _ h => h) (Or.inl ⟨by rfl, by intro W hW; clear hW; go_simp⟩) d10.out ?_
  simp only [List.setIfInBounds_toArray, List.set_cons_zero, List.set_cons_succ]
  refine takeD (i := 7) (d := 117) (v := .pointer (some ⟨gm, 0, none⟩)) rfl rfl (by kernel_rfl) (by kernel_rfl) (by kernel_rfl) (fun _ _ _ h => h) (Or.inl ⟨by rfl, by intro W hW; clear hW; go_simp⟩) d10.out ?_
  simp only [List.setIfInBounds_toArray, List.set_cons_zero, List.set_cons_succ]
  refine takeD (i := 8) (d := 118) (v := .pointer (some ⟨gm, 33, none⟩)) rfl rfl (by kernel_rfl) (by kernel_rfl) (by kernel_rfl) (fun _ _ _ h => h) (Or.inl ⟨by rfl, by intro W hW; clear hW; go_simp⟩) d10.out ?_
  simp only [List.setIfInBounds_toArray, List.set_cons_zero, List.set_cons_succ]
  refine takeD (i := 9) (d := 119) (v := .pointer aml) rfl rfl (by kernel_rfl) (by kernel_rfl) (by kernel_rfl) (fun _ _ _ h => h) (Or.inl ⟨by rfl, by intro W hW; have cc := (nM.out W hW).low; clear hW; go_simp⟩) d10.out ?_
  simp only [List.setIfInBounds_toArray, List.set_cons_zero, List.set_cons_succ]
  refine takeD (i := 11) (d := 121) (v := .pointer (some ⟨gl, 0, none⟩)) rfl rfl (by kernel_rfl) (by kernel_rfl) (by kernel_rfl) (fun _ _ _ h => h) (Or.inl ⟨by rfl, by intro W hW; clear hW; go_simp⟩) d10.out ?_
  simp only [List.setIfInBounds_toArray, List.set_cons_zero, List.set_cons_succ]
  refine takeD (i := 12) (d := 122) (v := .pointer (some ⟨gl, 0, none⟩)) rfl rfl (by kernel_rfl) (by kernel_rfl) (by kernel_rfl) (fun _ _ _ h => h) (Or.inl ⟨by rfl, by intro W hW; clear hW; go_simp⟩) d10.out ?_
  simp only [List.setIfInBounds_toArray, List.set_cons_zero, List.set_cons_succ]
  refine takeD (i := 13) (d := 123) (v := .pointer (some ⟨gl, 0, none⟩)) rfl rfl (by kernel_rfl) (by kernel_rfl) (by kernel_rfl) (fun _ _ _ h => h) (Or.inl ⟨by rfl, by intro W hW; clear hW; go_simp⟩) d10.out ?_
  simp only [List.setIfInBounds_toArray, List.set_cons_zero, List.set_cons_succ]
  refine takeD (i := 14) (d := 124) rfl rfl (by kernel_rfl) (by kernel_rfl) (by kernel_rfl) (fun _ _ _ h => h) (yieldsIf_load_mid (by rfl) 61 _ rfl gl 0 rfl (encR hr) _ qL.out Try.underlying61 rfl (by rw [l33.out]; exact hi33'.out)) d10.out ?_
  simp only [List.setIfInBounds_toArray, List.set_cons_zero, List.set_cons_succ]
  refine takeD (i := 15) (d := 125) (v := .pointer (some ⟨gm, 0, none⟩)) rfl rfl (by kernel_rfl) (by kernel_rfl) (by kernel_rfl) (fun _ _ _ h => h) (Or.inl ⟨by rfl, by intro W hW; clear hW; go_simp⟩) d10.out ?_
  simp only [List.setIfInBounds_toArray, List.set_cons_zero, List.set_cons_succ]
  refine takeD (i := 16) (d := 126) (v := .pointer (some ⟨gm, 0, none⟩)) rfl rfl (by kernel_rfl) (by kernel_rfl) (by kernel_rfl) (fun _ _ _ h => h) (Or.inl ⟨by rfl, by intro W hW; clear hW; go_simp⟩) d10.out ?_
  simp only [List.setIfInBounds_toArray, List.set_cons_zero, List.set_cons_succ]
  refine takeD (i := 17) (d := 127) (v := .pointer (some ⟨gm, 34, none⟩)) rfl rfl (by kernel_rfl) (by kernel_rfl) (by kernel_rfl) (fun _ _ _ h => h) (Or.inl ⟨by rfl, by intro W hW; clear hW; go_simp⟩) d10.out ?_
  simp only [List.setIfInBounds_toArray, List.set_cons_zero, List.set_cons_succ]
  refine takeD (i := 18) (d := 128) (v := .pointer amh) rfl rfl (by kernel_rfl) (by kernel_rfl) (by kernel_rfl) (fun _ _ _ h => h) (Or.inl ⟨by rfl, by intro W hW; have cc := (nM.out W hW).high; clear hW; go_simp⟩) d10.out ?_
  simp only [List.setIfInBounds_toArray, List.set_cons_zero, List.set_cons_succ]
  refine takeD (i := 19) (d := 129) (v := .pointer (some ⟨gl, 0, none⟩)) rfl rfl (by kernel_rfl) (by kernel_rfl) (by kernel_rfl) (fun _ _ _ h => h) (Or.inl ⟨by rfl, by intro W hW; clear hW; go_simp⟩) d10.out ?_
  simp only [List.setIfInBounds_toArray, List.set_cons_zero, List.set_cons_succ]
  refine takeD (i := 20) (d := 130) (v := .pointer (some ⟨gl, 0, none⟩)) rfl rfl (by kernel_rfl) (by kernel_rfl) (by kernel_rfl) (fun _ _ _ h => h) (Or.inl ⟨by rfl, by intro W hW; clear hW; go_simp⟩) d10.out ?_
  simp only [List.setIfInBounds_toArray, List.set_cons_zero, List.set_cons_succ]
  refine takeD (i := 21) (d := 131) (v := .pointer (some ⟨gl, 34, none⟩)) rfl rfl (by kernel_rfl) (by kernel_rfl) (by kernel_rfl) (fun _ _ _ h => h) (Or.inl ⟨by rfl, by intro W hW; clear hW; go_simp⟩) d10.out ?_
  simp only [List.setIfInBounds_toArray, List.set_cons_zero, List.set_cons_succ]
  refine takeD (i := 22) (d := 132) (v := .pointer alh) rfl rfl (by kernel_rfl) (by kernel_rfl) (by kernel_rfl) (fun _ _ _ h => h) (Or.inl ⟨by rfl, by intro W hW; have cc := (nL.out W hW).high; clear hW; go_simp⟩) d10.out ?_
  simp only [List.setIfInBounds_toArray, List.set_cons_zero, List.set_cons_succ]
  refine wpAnyH_ready (rs := [10]) (by kernel_rfl) (by simp) ?_
  refine AllReadyH.cons rfl (fun K hK => ?_) AllReadyH.nil
  go_simp
  go_wp2_with (go_at_call 55; refine (join_any _ r l ml _ _ (TreeAt.below d10.out _ _ tl.out) (tM1.out _ d10.out) j0.out).mono ?_; rintro e w1 ⟨⟨v1, rfl, t1⟩, b1⟩; skip)
  have e1 : Hid (Below w0.heap.size w0 w1) := Lib.hid (d10.out.trans (b1.mono d10.out.size))
  have s1 := Lib.hid t1
  clear t1 b1
  refine hK.out _ _ e1.out (fun _ => ?_)
  clear hK K
  refine wpAnyH_ready (rs := [23]) (by kernel_rfl) (by simp) ?_
  refine AllReadyH.cons rfl (fun K hK => ?_) AllReadyH.nil
  go_simp
  go_wp2_with (go_at_call 55; refine (join_any _ hr mh hh _ _ (tM2.out _ e1.out) (tL2.out _ e1.out) j1.out).mono ?_; rintro e w2 ⟨⟨v2, rfl, t2⟩, b2⟩; skip)
  have e2 : Hid (Below w0.heap.size w0 w2) := Lib.hid (e1.out.trans (b2.mono e1.out.size))
  have s2 := Lib.hid t2
  have s1 := Lib.hid (TreeAt.below b2 _ _ s1.out)
  clear t2 b2
  refine hK.out _ _ e2.out (fun _ => ?_)
  clear hK K
  refine wpAnyH_ready (rs := [24]) (by kernel_rfl) (by simp) ?_
  refine AllReadyH.cons rfl (fun K hK => ?_) AllReadyH.nil
  go_simp
  go_wp2_with (go_at_call 55; refine (join_any _ mr (.node r l ml) (.node hr mh hh) _ _ s1.out s2.out j2.out).mono ?_; rintro e w3 ⟨⟨v3, rfl, t3⟩, b3⟩; skip)
  have e3 : Hid (Below w0.heap.size w0 w3) := Lib.hid (e2.out.trans (b3.mono e2.out.size))
  have s3 := Lib.hid t3
  clear t3 b3
  refine hK.out _ _ e3.out (fun _ => ?_)
  clear hK K
  refine wpAnyH_ready (rs := [25]) (by kernel_rfl) (by simp) ?_
  refine AllReadyH.cons rfl (fun K hK => ?_) AllReadyH.nil
  go_simp
  refine hK.out _ _ e3.out (fun _ => ?_)
  clear hK K
  refine wpAnyH_done (by kernel_rfl) ?_ _
  go_wp2_with fail
  go_ret
  cases hS0.out ()
  exact ⟨⟨_, rfl, s3.out⟩, hb0.out.trans (e3.out.mono hb0.out.size)⟩
end Go.Proofs.Ytakcnkmlglkkpaa

namespace Go.Proofs.Ytakcnkmlglkkpaa
open Go.RowKit
set_option linter.unusedSimpArgs false
set_option linter.unusedVariables false

theorem lt_ne {a b : ByteArray} (h : ltS a b = true) : b.toList ≠ a.toList := fun e => by rw [name_less e.symm] at h; cases h
theorem even_any (w : World) (r : RootT) (l h : Tr) (vl vh : Value) (hl : TreeAt w l vl) (hh : TreeAt w h vh) (hn : l.cnt + h.cnt ≤ 999000) :
    Calls Try.prog 56 #[.agg (encR r).toArray, vl, vh] w fun e w' => (∃ v, e = .returned v ∧ TreeAt w' (Tr.even r l h) v) ∧ Below w.heap.size w w' := by
  by_cases h1 : h.deep + 1 < l.deep
  · cases l with
    | nil => exact absurd h1 (by simp [Tr.deep])
    | node lr ll lh =>
      by_cases h2 : lh.deep ≤ ll.deep
      · have e : Tr.even r (.node lr ll lh) h = .node lr ll (.node r lh h) := by
          unfold Tr.even
          rw [if_pos h1]
          simp only [if_pos h2]
        rw [e]
        exact even_A w r lr ll lh h vl vh hl hh hn h1 h2
      · cases lh with
        | nil => exact absurd (Nat.zero_le _) h2
        | node mr ml mh =>
          have e : Tr.even r (.node lr ll (.node mr ml mh)) h = .node mr (.node lr ll ml) (.node r mh h) := by
            unfold Tr.even
            rw [if_pos h1]
            simp only [if_neg h2]
          rw [e]
          exact even_B w r lr ll mr ml mh h vl vh hl hh hn h1 h2
  · by_cases h3 : l.deep + 1 < h.deep
    · cases h with
      | nil => exact absurd h3 (by simp [Tr.deep])
      | node hr hl' hh' =>
        by_cases h2 : hl'.deep ≤ hh'.deep
        · have e : Tr.even r l (.node hr hl' hh') = .node hr (.node r l hl') hh' := by
            unfold Tr.even
            rw [if_neg h1, if_pos h3]
            simp only [if_pos h2]
          rw [e]
          exact even_C w r l hr hl' hh' vl vh hl hh hn h3 h2
        · cases hl' with
          | nil => exact absurd (Nat.zero_le _) h2
          | node mr ml mh =>
            have e : Tr.even r l (.node hr (.node mr ml mh) hh') = .node mr (.node r l ml) (.node hr mh hh') := by
              unfold Tr.even
              rw [if_neg h1, if_pos h3]
              simp only [if_neg h2]
            rw [e]
            exact even_D w r l hr mr ml mh hh' vl vh hl hh hn h3 h2
    · exact even_E w r l h vl vh hl hh hn h1 h3
end Go.Proofs.Ytakcnkmlglkkpaa
