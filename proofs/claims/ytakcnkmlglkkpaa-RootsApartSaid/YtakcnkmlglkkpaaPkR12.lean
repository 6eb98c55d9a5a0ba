/- A tree of roots in memory: without. (Printed by tools/gentree.py.) A tree of roots in memory: without. (Printed by tools/gentree.py.) A tree of roots in memory: without. (Printed by tools/gentree.py.) -/
import Derived.Test.YtakcnkmlglkkpaaPkR10
import Derived.Test.YtakcnkmlglkkpaaPkR4

namespace Go.Proofs.Ytakcnkmlglkkpaa
open Go.RowKit
set_option linter.unusedSimpArgs false
set_option linter.unusedVariables false

set_option maxRecDepth 100000 in
set_option maxHeartbeats 8000000 in
theorem without_A (w0 : World) (s : ByteArray) (x : RootT) (l h : Tr) (v : Value) (ht : TreeAt w0 (.node x l h) v) (hlt : ltS s x.1 = false) (hgt : ltS x.1 s = false) (hl : l = .nil) :
    Calls Try.prog 51 #[v, .string s] w0 fun e w' => (∃ v', e = .returned v' ∧ TreeAt w' (h) v') ∧ Below w0.heap.size w0 w' := by
  have hi33 : (Try.prog.info? 61).map (·.size) = some 33 := by kernel_rfl
  have hi33' := Lib.hid hi33
  have l33 : Hid (∀ r : RootT, (encR r).length = 33) := Lib.hid encR_length
  have a33 : Hid (∀ r : RootT, (encR r).toArray.size = 33) := Lib.hid fun r => by simp [encR_length]
  clear hi33
  have hb0 : Hid (Below w0.heap.size w0 w0) := Lib.hid (Below.refl _ _)
  have tl : Hid (TreeAt w0 (.node x l h) v) := Lib.hid (TreeAt.below hb0.out _ _ ht)
  clear ht
  obtain ⟨g, v1, v2, hv, hg, _, t1, t2⟩ := tl.out
  cases hv
  obtain ⟨al, rfl⟩ := t1.ptr
  obtain ⟨ah, rfl⟩ := t2.ptr
  have nL : Hid (∀ W, Below w0.heap.size w0 W → NodeAt W g x (.pointer al) (.pointer ah) _ _) := Lib.hid fun W hW => NodeAt.below ⟨hg⟩ hW
  have qL : Hid (∀ W, Below w0.heap.size w0 W → W.rangeAt g 0 (encR x)) := Lib.hid fun W hW => (nL.out W hW).root
  have tL1 := Lib.hid (fun (W : World) (hW : Below w0.heap.size w0 W) => TreeAt.below hW _ _ t1)
  have tL2 := Lib.hid (fun (W : World) (hW : Below w0.heap.size w0 W) => TreeAt.below hW _ _ t2)
  have z0 : Hid (Below w0.heap.size w0 w0) := Lib.hid (Below.refl _ _)
  have cN := (nL.out w0 z0.out).name
  have cl1 := (nL.out w0 z0.out).low
  have cl2 := (nL.out w0 z0.out).high
  clear hg t1 t2
  have q1 : Op.bytesLess s.toList x.1.toList = false := hlt
  have q2 : (s.toList == x.1.toList) = true := by simpa using ltS_three hlt hgt
  subst hl
  have e1 := tL1.out w0 z0.out
  cases e1
  clear hlt hgt
  go_enter Try.func51, Try.ntmps51
  go_wp2_with fail
  go_ret
  refine ⟨⟨_, rfl, tL2.out _ z0.out⟩, ?_⟩
  exact hb0.out
set_option maxRecDepth 100000 in
set_option maxHeartbeats 8000000 in
theorem without_B (w0 : World) (s : ByteArray) (x : RootT) (l h : Tr) (v : Value) (ht : TreeAt w0 (.node x l h) v) (hlt : ltS s x.1 = false) (hgt : ltS x.1 s = false) (hl : ∃ a b c, l = .node a b c) (hh : h = .nil) :
    Calls Try.prog 51 #[v, .string s] w0 fun e w' => (∃ v', e = .returned v' ∧ TreeAt w' (l) v') ∧ Below w0.heap.size w0 w' := by
  have hi33 : (Try.prog.info? 61).map (·.size) = some 33 := by kernel_rfl
  have hi33' := Lib.hid hi33
  have l33 : Hid (∀ r : RootT, (encR r).length = 33) := Lib.hid encR_length
  have a33 : Hid (∀ r : RootT, (encR r).toArray.size = 33) := Lib.hid fun r => by simp [encR_length]
  clear hi33
  have hb0 : Hid (Below w0.heap.size w0 w0) := Lib.hid (Below.refl _ _)
  have tl : Hid (TreeAt w0 (.node x l h) v) := Lib.hid (TreeAt.below hb0.out _ _ ht)
  clear ht
  obtain ⟨g, v1, v2, hv, hg, _, t1, t2⟩ := tl.out
  cases hv
  obtain ⟨al, rfl⟩ := t1.ptr
  obtain ⟨ah, rfl⟩ := t2.ptr
  have nL : Hid (∀ W, Below w0.heap.size w0 W → NodeAt W g x (.pointer al) (.pointer ah) _ _) := Lib.hid fun W hW => NodeAt.below ⟨hg⟩ hW
  have qL : Hid (∀ W, Below w0.heap.size w0 W → W.rangeAt g 0 (encR x)) := Lib.hid fun W hW => (nL.out W hW).root
  have tL1 := Lib.hid (fun (W : World) (hW : Below w0.heap.size w0 W) => TreeAt.below hW _ _ t1)
  have tL2 := Lib.hid (fun (W : World) (hW : Below w0.heap.size w0 W) => TreeAt.below hW _ _ t2)
  have z0 : Hid (Below w0.heap.size w0 w0) := Lib.hid (Below.refl _ _)
  have cN := (nL.out w0 z0.out).name
  have cl1 := (nL.out w0 z0.out).low
  have cl2 := (nL.out w0 z0.out).high
  clear hg t1 t2
  have q1 : Op.bytesLess s.toList x.1.toList = false := hlt
  have q2 : (s.toList == x.1.toList) = true := by simpa using ltS_three hlt hgt
  subst hh
  have e1 := tL2.out w0 z0.out
  cases e1
  obtain ⟨gl, el⟩ : ∃ g, al = some ⟨g, 0, none⟩ := by
    obtain ⟨a, b, c, rfl⟩ := hl
    obtain ⟨g, _, _, e, _⟩ := tL1.out w0 z0.out
    cases e
    exact ⟨g, rfl⟩
  subst el
  clear hl
  clear hlt hgt
  go_enter Try.func51, Try.ntmps51
  go_wp2_with fail
  go_ret
  refine ⟨⟨_, rfl, tL1.out _ z0.out⟩, ?_⟩
  exact hb0.out
end Go.Proofs.Ytakcnkmlglkkpaa

namespace Go.Proofs.Ytakcnkmlglkkpaa
open Go.RowKit
set_option linter.unusedSimpArgs false
set_option linter.unusedVariables false

set_option maxRecDepth 100000 in
set_option maxHeartbeats 8000000 in
theorem without_L (w0 : World) (s : ByteArray) (x : RootT) (l h : Tr) (v : Value) (ht : TreeAt w0 (.node x l h) v) (hc : (l.without s).cnt + h.cnt ≤ 999000) (hlt : ltS s x.1 = true) (ih : ∀ (W : World) (u : Value), TreeAt W l u → Calls Try.prog 51 #[u, .string s] W fun e w' => (∃ v, e = .returned v ∧ TreeAt w' (l.without s) v) ∧ Below W.heap.size W w') :
    Calls Try.prog 51 #[v, .string s] w0 fun e w' => (∃ v', e = .returned v' ∧ TreeAt w' (Tr.even x (l.without s) h) v') ∧ Below w0.heap.size w0 w' := by
  have hi33 : (Try.prog.info? 61).map (·.size) = some 33 := by kernel_rfl
  have hi33' := Lib.hid hi33
  have l33 : Hid (∀ r : RootT, (encR r).length = 33) := Lib.hid encR_length
  have a33 : Hid (∀ r : RootT, (encR r).toArray.size = 33) := Lib.hid fun r => by simp [encR_length]
  clear hi33
  have hb0 : Hid (Below w0.heap.size w0 w0) := Lib.hid (Below.refl _ _)
  have tl : Hid (TreeAt w0 (.node x l h) v) := Lib.hid (TreeAt.below hb0.out _ _ ht)
  clear ht
  obtain ⟨g, v1, v2, hv, hg, _, t1, t2⟩ := tl.out
  cases hv
  obtain ⟨al, rfl⟩ := t1.ptr
  obtain ⟨ah, rfl⟩ := t2.ptr
  have nL : Hid (∀ W, Below w0.heap.size w0 W → NodeAt W g x (.pointer al) (.pointer ah) _ _) := Lib.hid fun W hW => NodeAt.below ⟨hg⟩ hW
  have qL : Hid (∀ W, Below w0.heap.size w0 W → W.rangeAt g 0 (encR x)) := Lib.hid fun W hW => (nL.out W hW).root
  have tL1 := Lib.hid (fun (W : World) (hW : Below w0.heap.size w0 W) => TreeAt.below hW _ _ t1)
  have tL2 := Lib.hid (fun (W : World) (hW : Below w0.heap.size w0 W) => TreeAt.below hW _ _ t2)
  have z0 : Hid (Below w0.heap.size w0 w0) := Lib.hid (Below.refl _ _)
  have cN := (nL.out w0 z0.out).name
  have cl1 := (nL.out w0 z0.out).low
  have cl2 := (nL.out w0 z0.out).high
  clear hg t1 t2
  have hc' := Lib.hid hc
  have q1 : Op.bytesLess s.toList x.1.toList = true := hlt
  have ih' := Lib.hid ih
  clear hlt hc ih
  go_enter Try.func51, Try.ntmps51
  go_wp2_with fail
  have zq := z0
  clear cl1 cl2 cN
  refine wp_region_held (S := fun W => Below w0.heap.size w0 W) (by kernel_rfl) ?_
  change wpAnyH _ _ _ _ _ _ _ _ (World.drew w0)
  have d2 : Hid (Below w0.heap.size w0 (World.drew w0)) := Lib.hid (zq.out.trans (below_drewN (Below.refl w0.heap.size _) 1))
  refine takeD (i := 0) (d := 14) (v := .pointer (some ⟨g, 0, none⟩)) rfl rfl (by kernel_rfl) (by kernel_rfl) (by kernel_rfl) (fun _ _ _ h => h) (Or.inl ⟨by rfl, by intro W hW; clear hW; go_simp⟩) d2.out ?_
  simp only [List.setIfInBounds_toArray, List.set_cons_zero, List.set_cons_succ]
  refine takeD (i := 1) (d := 15) (v := .pointer (some ⟨g, 0, none⟩)) rfl rfl (by kernel_rfl) (by kernel_rfl) (by kernel_rfl) (fun _ _ _ h => h) (Or.inl ⟨by rfl, by intro W hW; clear hW; go_simp⟩) d2.out ?_
  simp only [List.setIfInBounds_toArray, List.set_cons_zero, List.set_cons_succ]
  refine takeD (i := 2) (d := 16) (v := .pointer (some ⟨g, 0, none⟩)) rfl rfl (by kernel_rfl) (by kernel_rfl) (by kernel_rfl) (fun _ _ _ h => h) (Or.inl ⟨by rfl, by intro W hW; clear hW; go_simp⟩) d2.out ?_
  simp only [List.setIfInBounds_toArray, List.set_cons_zero, List.set_cons_succ]
  refine takeD (i := 3) (d := 17) rfl rfl (by kernel_rfl) (by kernel_rfl) (by kernel_rfl) (fun _ _ _ h => h) (yieldsIf_load_mid (by rfl) 61 _ rfl g 0 rfl (encR x) _ qL.out Try.underlying61 rfl (by rw [l33.out]; exact hi33'.out)) d2.out ?_
  simp only [List.setIfInBounds_toArray, List.set_cons_zero, List.set_cons_succ]
  refine takeD (i := 4) (d := 18) (v := .pointer (some ⟨g, 0, none⟩)) rfl rfl (by kernel_rfl) (by kernel_rfl) (by kernel_rfl) (fun _ _ _ h => h) (Or.inl ⟨by rfl, by intro W hW; clear hW; go_simp⟩) d2.out ?_
  simp only [List.setIfInBounds_toArray, List.set_cons_zero, List.set_cons_succ]
  refine takeD (i := 5) (d := 19) (v := .pointer (some ⟨g, 0, none⟩)) rfl rfl (by kernel_rfl) (by kernel_rfl) (by kernel_rfl) (fun _ _ _ h => h) (Or.inl ⟨by rfl, by intro W hW; clear hW; go_simp⟩) d2.out ?_
  simp only [List.setIfInBounds_toArray, List.set_cons_zero, List.set_cons_succ]
  refine takeD (i := 6) (d := 20) (v := .pointer (some ⟨g, 33, none⟩)) rfl rfl (by kernel_rfl) (by kernel_rfl) (by kernel_rfl) (fun _ _ _ h => h) (Or.inl ⟨by rfl, by intro W hW; clear hW; go_simp⟩) d2.out ?_
  simp only [List.setIfInBounds_toArray, List.set_cons_zero, List.set_cons_succ]
  refine takeD (i := 7) (d := 21) (v := .pointer al) rfl rfl (by kernel_rfl) (by kernel_rfl) (by kernel_rfl) (fun _ _ _ h => h) (Or.inl ⟨by rfl, by intro W hW; have cc := (nL.out W hW).low; clear hW; go_simp⟩) d2.out ?_
  simp only [List.setIfInBounds_toArray, List.set_cons_zero, List.set_cons_succ]
  refine takeD (i := 8) (d := 22) (v := .string s) rfl rfl (by kernel_rfl) (by kernel_rfl) (by kernel_rfl) (fun _ _ _ h => h) (Or.inl ⟨by rfl, by intro W hW; clear hW; go_simp⟩) d2.out ?_
  simp only [List.setIfInBounds_toArray, List.set_cons_zero, List.set_cons_succ]
  refine takeD (i := 10) (d := 24) (v := .pointer (some ⟨g, 0, none⟩)) rfl rfl (by kernel_rfl) (by kernel_rfl) (by kernel_rfl) (fun _ _ _ h => h) (Or.inl ⟨by rfl, by intro W hW; clear hW; go_simp⟩) d2.out ?_
  simp only [List.setIfInBounds_toArray, List.set_cons_zero, List.set_cons_succ]
  refine takeD (i := 11) (d := 25) (v := .pointer (some ⟨g, 0, none⟩)) rfl rfl (by kernel_rfl) (by kernel_rfl) (by kernel_rfl) (fun _ _ _ h => h) (Or.inl ⟨by rfl, by intro W hW; clear hW; go_simp⟩) d2.out ?_
  simp only [List.setIfInBounds_toArray, List.set_cons_zero, List.set_cons_succ]
  refine takeD (i := 12) (d := 26) (v := .pointer (some ⟨g, 34, none⟩)) rfl rfl (by kernel_rfl) (by kernel_rfl) (by kernel_rfl) (fun _ _ _ h => h) (Or.inl ⟨by rfl, by intro W hW; clear hW; go_simp⟩) d2.out ?_
  simp only [List.setIfInBounds_toArray, List.set_cons_zero, List.set_cons_succ]
  refine takeD (i := 13) (d := 27) (v := .pointer ah) rfl rfl (by kernel_rfl) (by kernel_rfl) (by kernel_rfl) (fun _ _ _ h => h) (Or.inl ⟨by rfl, by intro W hW; have cc := (nL.out W hW).high; clear hW; go_simp⟩) d2.out ?_
  simp only [List.setIfInBounds_toArray, List.set_cons_zero, List.set_cons_succ]
  refine wpAnyH_ready (rs := [9]) (by kernel_rfl) (by simp) ?_
  refine AllReadyH.cons rfl (fun K hK => ?_) AllReadyH.nil
  go_simp
  go_wp2_with (go_at_call 51; refine (ih'.out _ _ (tL1.out _ d2.out)).mono ?_; rintro e w1 ⟨⟨v1, rfl, t1⟩, b1⟩; skip)
  have e1 : Hid (Below w0.heap.size w0 w1) := Lib.hid (d2.out.trans (b1.mono d2.out.size))
  have s1 := Lib.hid t1
  clear t1 b1
  refine hK.out _ _ e1.out (fun _ => ?_)
  clear hK K
  refine wpAnyH_ready (rs := [14]) (by kernel_rfl) (by simp) ?_
  refine AllReadyH.cons rfl (fun K hK => ?_) AllReadyH.nil
  go_simp
  go_wp2_with (go_at_call 56; refine (even_any _ x (l.without s) h _ _ s1.out (tL2.out _ e1.out) hc'.out).mono ?_; rintro e w2 ⟨⟨v2, rfl, t2⟩, b2⟩; skip)
  have e2 : Hid (Below w0.heap.size w0 w2) := Lib.hid (e1.out.trans (b2.mono e1.out.size))
  have s2 := Lib.hid t2
  clear t2 b2
  refine hK.out _ _ e2.out (fun _ => ?_)
  clear hK K
  refine wpAnyH_ready (rs := [15]) (by kernel_rfl) (by simp) ?_
  refine AllReadyH.cons rfl (fun K hK => ?_) AllReadyH.nil
  go_simp
  refine hK.out _ _ e2.out (fun _ => ?_)
  clear hK K
  refine wpAnyH_done (by kernel_rfl) ?_ _
  go_wp2_with fail
  go_ret
  exact ⟨⟨_, rfl, s2.out⟩, hb0.out.trans (e2.out.mono hb0.out.size)⟩
end Go.Proofs.Ytakcnkmlglkkpaa

namespace Go.Proofs.Ytakcnkmlglkkpaa
open Go.RowKit
set_option linter.unusedSimpArgs false
set_option linter.unusedVariables false

set_option maxRecDepth 100000 in
set_option maxHeartbeats 8000000 in
theorem without_H (w0 : World) (s : ByteArray) (x : RootT) (l h : Tr) (v : Value) (ht : TreeAt w0 (.node x l h) v) (hc : l.cnt + (h.without s).cnt ≤ 999000) (hlt : ltS s x.1 = false) (hgt : ltS x.1 s = true) (ih : ∀ (W : World) (u : Value), TreeAt W h u → Calls Try.prog 51 #[u, .string s] W fun e w' => (∃ v, e = .returned v ∧ TreeAt w' (h.without s) v) ∧ Below W.heap.size W w') :
    Calls Try.prog 51 #[v, .string s] w0 fun e w' => (∃ v', e = .returned v' ∧ TreeAt w' (Tr.even x l (h.without s)) v') ∧ Below w0.heap.size w0 w' := by
  have hi33 : (Try.prog.info? 61).map (·.size) = some 33 := by kernel_rfl
  have hi33' := Lib.hid hi33
  have l33 : Hid (∀ r : RootT, (encR r).length = 33) := Lib.hid encR_length
  have a33 : Hid (∀ r : RootT, (encR r).toArray.size = 33) := Lib.hid fun r => by simp [encR_length]
  clear hi33
  have hb0 : Hid (Below w0.heap.size w0 w0) := Lib.hid (Below.refl _ _)
  have tl : Hid (TreeAt w0 (.node x l h) v) := Lib.hid (TreeAt.below hb0.out _ _ ht)
  clear ht
  obtain ⟨g, v1, v2, hv, hg, _, t1, t2⟩ := tl.out
  cases hv
  obtain ⟨al, rfl⟩ := t1.ptr
  obtain ⟨ah, rfl⟩ := t2.ptr
  have nL : Hid (∀ W, Below w0.heap.size w0 W → NodeAt W g x (.pointer al) (.pointer ah) _ _) := Lib.hid fun W hW => NodeAt.below ⟨hg⟩ hW
  have qL : Hid (∀ W, Below w0.heap.size w0 W → W.rangeAt g 0 (encR x)) := Lib.hid fun W hW => (nL.out W hW).root
  have tL1 := Lib.hid (fun (W : World) (hW : Below w0.heap.size w0 W) => TreeAt.below hW _ _ t1)
  have tL2 := Lib.hid (fun (W : World) (hW : Below w0.heap.size w0 W) => TreeAt.below hW _ _ t2)
  have z0 : Hid (Below w0.heap.size w0 w0) := Lib.hid (Below.refl _ _)
  have cN := (nL.out w0 z0.out).name
  have cl1 := (nL.out w0 z0.out).low
  have cl2 := (nL.out w0 z0.out).high
  clear hg t1 t2
  have hc' := Lib.hid hc
  have q1 : Op.bytesLess s.toList x.1.toList = false := hlt
  have q2 : (s.toList == x.1.toList) = false := by simpa using lt_ne hgt
  have ih' := Lib.hid ih
  clear hlt hc hgt ih
  go_enter Try.func51, Try.ntmps51
  go_wp2_with fail
  have zq := z0
  clear cl1 cl2 cN
  refine wp_region_held (S := fun W => Below w0.heap.size w0 W) (by kernel_rfl) ?_
  change wpAnyH _ _ _ _ _ _ _ _ (World.drew w0)
  have d4 : Hid (Below w0.heap.size w0 (World.drew w0)) := Lib.hid (zq.out.trans (below_drewN (Below.refl w0.heap.size _) 1))
  refine takeD (i := 0) (d := 37) (v := .pointer (some ⟨g, 0, none⟩)) rfl rfl (by kernel_rfl) (by kernel_rfl) (by kernel_rfl) (fun _ _ _ h => h) (Or.inl ⟨by rfl, by intro W hW; clear hW; go_simp⟩) d4.out ?_
  simp only [List.setIfInBounds_toArray, List.set_cons_zero, List.set_cons_succ]
  refine takeD (i := 1) (d := 38) (v := .pointer (some ⟨g, 0, none⟩)) rfl rfl (by kernel_rfl) (by kernel_rfl) (by kernel_rfl) (fun _ _ _ h => h) (Or.inl ⟨by rfl, by intro W hW; clear hW; go_simp⟩) d4.out ?_
  simp only [List.setIfInBounds_toArray, List.set_cons_zero, List.set_cons_succ]
  refine takeD (i := 2) (d := 39) (v := .pointer (some ⟨g, 0, none⟩)) rfl rfl (by kernel_rfl) (by kernel_rfl) (by kernel_rfl) (fun _ _ _ h => h) (Or.inl ⟨by rfl, by intro W hW; clear hW; go_simp⟩) d4.out ?_
  simp only [List.setIfInBounds_toArray, List.set_cons_zero, List.set_cons_succ]
  refine takeD (i := 3) (d := 40) rfl rfl (by kernel_rfl) (by kernel_rfl) (by kernel_rfl) (fun _ _ _ h => h) (yieldsIf_load_mid (by rfl) 61 _ rfl g 0 rfl (encR x) _ qL.out Try.underlying61 rfl (by rw [l33.out]; exact hi33'.out)) d4.out ?_
  simp only [List.setIfInBounds_toArray, List.set_cons_zero, List.set_cons_succ]
  refine takeD (i := 4) (d := 41) (v := .pointer (some ⟨g, 0, none⟩)) rfl rfl (by kernel_rfl) (by kernel_rfl) (by kernel_rfl) (fun _ _ _ h => h) (Or.inl ⟨by rfl, by intro W hW; clear hW; go_simp⟩) d4.out ?_
  simp only [List.setIfInBounds_toArray, List.set_cons_zero, List.set_cons_succ]
  refine takeD (i := 5) (d := 42) (v := .pointer (some ⟨g, 0, none⟩)) rfl rfl (by kernel_rfl) (by kernel_rfl) (by kernel_rfl) (fun _ _ _ h => h) (Or.inl ⟨by rfl, by intro W hW; clear hW; go_simp⟩) d4.out ?_
  simp only [List.setIfInBounds_toArray, List.set_cons_zero, List.set_cons_succ]
  refine takeD (i := 6) (d := 43) (v := .pointer (some ⟨g, 33, none⟩)) rfl rfl (by kernel_rfl) (by kernel_rfl) (by kernel_rfl) (fun _ _ _ h => h) (Or.inl ⟨by rfl, by intro W hW; clear hW; go_simp⟩) d4.out ?_
  simp only [List.setIfInBounds_toArray, List.set_cons_zero, List.set_cons_succ]
  refine takeD (i := 7) (d := 44) (v := .pointer al) rfl rfl (by kernel_rfl) (by kernel_rfl) (by kernel_rfl) (fun _ _ _ h => h) (Or.inl ⟨by rfl, by intro W hW; have cc := (nL.out W hW).low; clear hW; go_simp⟩) d4.out ?_
  simp only [List.setIfInBounds_toArray, List.set_cons_zero, List.set_cons_succ]
  refine takeD (i := 8) (d := 45) (v := .pointer (some ⟨g, 0, none⟩)) rfl rfl (by kernel_rfl) (by kernel_rfl) (by kernel_rfl) (fun _ _ _ h => h) (Or.inl ⟨by rfl, by intro W hW; clear hW; go_simp⟩) d4.out ?_
  simp only [List.setIfInBounds_toArray, List.set_cons_zero, List.set_cons_succ]
  refine takeD (i := 9) (d := 46) (v := .pointer (some ⟨g, 0, none⟩)) rfl rfl (by kernel_rfl) (by kernel_rfl) (by kernel_rfl) (fun _ _ _ h => h) (Or.inl ⟨by rfl, by intro W hW; clear hW; go_simp⟩) d4.out ?_
  simp only [List.setIfInBounds_toArray, List.set_cons_zero, List.set_cons_succ]
  refine takeD (i := 10) (d := 47) (v := .pointer (some ⟨g, 34, none⟩)) rfl rfl (by kernel_rfl) (by kernel_rfl) (by kernel_rfl) (fun _ _ _ h => h) (Or.inl ⟨by rfl, by intro W hW; clear hW; go_simp⟩) d4.out ?_
  simp only [List.setIfInBounds_toArray, List.set_cons_zero, List.set_cons_succ]
  refine takeD (i := 11) (d := 48) (v := .pointer ah) rfl rfl (by kernel_rfl) (by kernel_rfl) (by kernel_rfl) (fun _ _ _ h => h) (Or.inl ⟨by rfl, by intro W hW; have cc := (nL.out W hW).high; clear hW; go_simp⟩) d4.out ?_
  simp only [List.setIfInBounds_toArray, List.set_cons_zero, List.set_cons_succ]
  refine takeD (i := 12) (d := 49) (v := .string s) rfl rfl (by kernel_rfl) (by kernel_rfl) (by kernel_rfl) (fun _ _ _ h => h) (Or.inl ⟨by rfl, by intro W hW; clear hW; go_simp⟩) d4.out ?_
  simp only [List.setIfInBounds_toArray, List.set_cons_zero, List.set_cons_succ]
  refine wpAnyH_ready (rs := [13]) (by kernel_rfl) (by simp) ?_
  refine AllReadyH.cons rfl (fun K hK => ?_) AllReadyH.nil
  go_simp
  go_wp2_with (go_at_call 51; refine (ih'.out _ _ (tL2.out _ d4.out)).mono ?_; rintro e w1 ⟨⟨v1, rfl, t1⟩, b1⟩; skip)
  have e1 : Hid (Below w0.heap.size w0 w1) := Lib.hid (d4.out.trans (b1.mono d4.out.size))
  have s1 := Lib.hid t1
  clear t1 b1
  refine hK.out _ _ e1.out (fun _ => ?_)
  clear hK K
  refine wpAnyH_ready (rs := [14]) (by kernel_rfl) (by simp) ?_
  refine AllReadyH.cons rfl (fun K hK => ?_) AllReadyH.nil
  go_simp
  go_wp2_with (go_at_call 56; refine (even_any _ x l (h.without s) _ _ (tL1.out _ e1.out) s1.out hc'.out).mono ?_; rintro e w2 ⟨⟨v2, rfl, t2⟩, b2⟩; skip)
  have e2 : Hid (Below w0.heap.size w0 w2) := Lib.hid (e1.out.trans (b2.mono e1.out.size))
  have s2 := Lib.hid t2
  clear t2 b2
  refine hK.out _ _ e2.out (fun _ => ?_)
  clear hK K
  refine wpAnyH_ready (rs := [15]) (by kernel_rfl) (by simp) ?_
  refine AllReadyH.cons rfl (fun K hK => ?_) AllReadyH.nil
  go_simp
  refine hK.out _ _ e2.out (fun _ => ?_)
  clear hK K
  refine wpAnyH_done (by kernel_rfl) ?_ _
  go_wp2_with fail
  go_ret
  exact ⟨⟨_, rfl, s2.out⟩, hb0.out.trans (e2.out.mono hb0.out.size)⟩
end Go.Proofs.Ytakcnkmlglkkpaa
