/- A tree of roots in memory: without. (Printed by tools/gentree.py.) A tree of roots in memory: with and without, of any tree. A tree of roots in memory: find. -/
import Derived.Test.YtakcnkmlglkkpaaPkR10
import Derived.Test.YtakcnkmlglkkpaaPkR4
import Derived.Test.YtakcnkmlglkkpaaPkR11
import Derived.Test.YtakcnkmlglkkpaaPkR12
import Derived.Test.YtakcnkmlglkkpaaPkR3

namespace Go.Proofs.Ytakcnkmlglkkpaa
open Go.RowKit
set_option linter.unusedSimpArgs false
set_option linter.unusedVariables false

set_option maxRecDepth 100000 in
set_option maxHeartbeats 8000000 in
theorem without_M (w0 : World) (s : ByteArray) (x : RootT) (l h : Tr) (v : Value) (ht : TreeAt w0 (.node x l h) v) (hc : l.cnt + (h.without (h.least x).1).cnt ≤ 999000) (hlt : ltS s x.1 = false) (hgt : ltS x.1 s = false) (hl : ∃ a b c, l = .node a b c) (hh : ∃ a b c, h = .node a b c) (ih : ∀ (W : World) (u : Value), TreeAt W h u → Calls Try.prog 51 #[u, .string (h.least x).1] W fun e w' => (∃ v, e = .returned v ∧ TreeAt w' (h.without (h.least x).1) v) ∧ Below W.heap.size W w') :
    Calls Try.prog 51 #[v, .string s] w0 fun e w' => (∃ v', e = .returned v' ∧ TreeAt w' (Tr.even (h.least x) l (h.without (h.least x).1)) v') ∧ Below w0.heap.size w0 w' := by
  have hi33 : (Try.prog.info? 61).map (·.size) = some 33 := by kernel_rfl
  have hi33' := Lib.hid hi33
  have l33 : Hid (∀ r : RootT, (encR r).length = 33) := Lib.hid encR_length
  have a33 : Hid (∀ r : RootT, (encR r).toArray.size = 33) := Lib.hid fun r => by simp [encR_length]
  clear hi33
  have hb0 : Hid (Below w0.heap.size w0 w0) := Lib.hid (Below.refl _ _)
  have tl : Hid (TreeAt w0 (.node x l h) v) := Lib.hid (TreeAt.below hb0.out _ _ ht)
  clear ht
  obtain ⟨g, v1, v2, hv, hg, _, t1, t2⟩ := tl.out
  cases hv
  obtain ⟨al, rfl⟩ := t1.ptr
  obtain ⟨ah, rfl⟩ := t2.ptr
  have nL : Hid (∀ W, Below w0.heap.size w0 W → NodeAt W g x (.pointer al) (.pointer ah) _ _) := Lib.hid fun W hW => NodeAt.below ⟨hg⟩ hW
  have qL : Hid (∀ W, Below w0.heap.size w0 W → W.rangeAt g 0 (encR x)) := Lib.hid fun W hW => (nL.out W hW).root
  have tL1 := Lib.hid (fun (W : World) (hW : Below w0.heap.size w0 W) => TreeAt.below hW _ _ t1)
  have tL2 := Lib.hid (fun (W : World) (hW : Below w0.heap.size w0 W) => TreeAt.below hW _ _ t2)
  have z0 : Hid (Below w0.heap.size w0 w0) := Lib.hid (Below.refl _ _)
  have cN := (nL.out w0 z0.out).name
  have cl1 := (nL.out w0 z0.out).low
  have cl2 := (nL.out w0 z0.out).high
  clear hg t1 t2
  have hc' := Lib.hid hc
  have q1 : Op.bytesLess s.toList x.1.toList = false := hlt
  have q2 : (s.toList == x.1.toList) = true := by simpa using ltS_three hlt hgt
  have ih' := Lib.hid ih
  obtain ⟨gl, el⟩ : ∃ g, al = some ⟨g, 0, none⟩ := by
    obtain ⟨a, b, c, rfl⟩ := hl
    obtain ⟨g, _, _, e, _⟩ := tL1.out w0 z0.out
    cases e
    exact ⟨g, rfl⟩
  subst el
  clear hl
  have hh' := Lib.hid hh
  obtain ⟨gh, eh⟩ : ∃ g, ah = some ⟨g, 0, none⟩ := by
    obtain ⟨a, b, c, rfl⟩ := hh
    obtain ⟨g, _, _, e, _⟩ := tL2.out w0 z0.out
    cases e
    exact ⟨g, rfl⟩
  subst eh
  clear hh
  have hz := zeroRt
  have hall := Lib.hid encR_all
  obtain ⟨F, hF⟩ : ∃ F, Hid (∀ _ : Unit, h.least x = F) := ⟨_, Lib.hid fun _ => rfl⟩
  rw [hF.out ()] at hc' ih' ⊢
  clear hlt hc hgt ih
  go_enter Try.func51, Try.ntmps51
  go_wp2_with (first
    | (go_at_call 59; refine (least_any _ h _ x (tL2.out _ z0.out) hh'.out).mono ?_; rintro e w1 ⟨rfl, b1⟩; rw [hF.out ()]; have b1' := Lib.hid b1; clear b1)
    | (refine wpList_store_row rfl 61 _ _ rfl w1.heap.size (encR F).toArray rfl rfl 61 _ (heap_alloc_new w1 _) (by rw [a33.out]; exact hi33'.out) (by rw [a33.out, a33.out]) (hall.out _) ?_))
  simp only [Act.put]
  obtain ⟨S1, hS1⟩ : ∃ s, Hid (∀ _ : Unit, w1.heap.size = s) := ⟨_, Lib.hid fun _ => rfl⟩
  have hg := setRow_heap _ w1.heap.size _ (encR F).toArray _ _ (heap_alloc_new w1 (.cells (encR rZ).toArray 61))
  rw [hS1.out ()] at hg ⊢
  generalize hwq : World.setRow _ _ _ = wq at hg ⊢
  have zq : Hid (Below w0.heap.size w0 wq) := Lib.hid (by
    rw [← hwq]
    refine (b1'.out.trans ((Below.refl _ w1).alloc b1'.out.size _)).trans ⟨rfl, rfl, rfl, by simp, fun k hk => setRow_other _ _ _ _ ?_⟩
    have := b1'.out.size
    have := hS1.out ()
    omega)
  have up : Hid (∀ W, Below wq.heap.size wq W → Below w0.heap.size w0 W) := Lib.hid fun W hW => zq.out.trans (hW.mono zq.out.size)
  have sB : Hid (∀ W, Below wq.heap.size wq W → W.rangeAt S1 0 (encR F)) := Lib.hid fun W hW j v hj => by
    have hg := (hW.block S1 (Array.getElem?_eq_some_iff.1 hg).1).trans hg
    rw [Nat.zero_add]
    simp [World.cell?, hg, hj]
  have nQ := Lib.hid fun (W : World) (hW : Below wq.heap.size wq W) => nL.out W (up.out W hW)
  have tQ1 := Lib.hid fun (W : World) (hW : Below wq.heap.size wq W) => tL1.out W (up.out W hW)
  have tQ2 := Lib.hid fun (W : World) (hW : Below wq.heap.size wq W) => tL2.out W (up.out W hW)
  have z1 : Hid (Below wq.heap.size wq wq) := Lib.hid (Below.refl _ _)
  clear hwq hg cl1 cl2 cN
  go_wp2_with fail
  refine wp_region_held (S := fun W => Below wq.heap.size wq W) (by kernel_rfl) ?_
  change wpAnyH _ _ _ _ _ _ _ _ (World.drew wq)
  have d10 : Hid (Below wq.heap.size wq (World.drew wq)) := Lib.hid (z1.out.trans (below_drewN (Below.refl wq.heap.size _) 1))
  refine takeD (i := 0) (d := 77) rfl rfl (by kernel_rfl) (by kernel_rfl) (by kernel_rfl) (fun _ _ _ h => h) (yieldsIf_load_mid (by rfl) 61 _ rfl S1 0 rfl (encR F) _ sB.out Try.underlying61 rfl (by rw [l33.out]; exact hi33'.out)) d10.out ?_
  simp only [List.setIfInBounds_toArray, List.set_cons_zero, List.set_cons_succ]
  refine takeD (i := 1) (d := 78) (v := .pointer (some ⟨g, 0, none⟩)) rfl rfl (by kernel_rfl) (by kernel_rfl) (by kernel_rfl) (fun _ _ _ h => h) (Or.inl ⟨by rfl, by intro W hW; clear hW; go_simp⟩) d10.out ?_
  simp only [List.setIfInBounds_toArray, List.set_cons_zero, List.set_cons_succ]
  refine takeD (i := 2) (d := 79) (v := .pointer (some ⟨g, 0, none⟩)) rfl rfl (by kernel_rfl) (by kernel_rfl) (by kernel_rfl) (fun _ _ _ h => h) (Or.inl ⟨by rfl, by intro W hW; clear hW; go_simp⟩) d10.out ?_
  simp only [List.setIfInBounds_toArray, List.set_cons_zero, List.set_cons_succ]
  refine takeD (i := 3) (d := 80) (v := .pointer (some ⟨g, 33, none⟩)) rfl rfl (by kernel_rfl) (by kernel_rfl) (by kernel_rfl) (fun _ _ _ h => h) (Or.inl ⟨by rfl, by intro W hW; clear hW; go_simp⟩) d10.out ?_
  simp only [List.setIfInBounds_toArray, List.set_cons_zero, List.set_cons_succ]
  refine takeD (i := 4) (d := 81) (v := .pointer (some ⟨gl, 0, none⟩)) rfl rfl (by kernel_rfl) (by kernel_rfl) (by kernel_rfl) (fun _ _ _ h => h) (Or.inl ⟨by rfl, by intro W hW; have cc := (nQ.out W hW).low; clear hW; go_simp⟩) d10.out ?_
  simp only [List.setIfInBounds_toArray, List.set_cons_zero, List.set_cons_succ]
  refine takeD (i := 5) (d := 82) (v := .pointer (some ⟨g, 0, none⟩)) rfl rfl (by kernel_rfl) (by kernel_rfl) (by kernel_rfl) (fun _ _ _ h => h) (Or.inl ⟨by rfl, by intro W hW; clear hW; go_simp⟩) d10.out ?_
  simp only [List.setIfInBounds_toArray, List.set_cons_zero, List.set_cons_succ]
  refine takeD (i := 6) (d := 83) (v := .pointer (some ⟨g, 0, none⟩)) rfl rfl (by kernel_rfl) (by kernel_rfl) (by kernel_rfl) (fun _ _ _ h => h) (Or.inl ⟨by rfl, by intro W hW; clear hW; go_simp⟩) d10.out ?_
  simp only [List.setIfInBounds_toArray, List.set_cons_zero, List.set_cons_succ]
  refine takeD (i := 7) (d := 84) (v := .pointer (some ⟨g, 34, none⟩)) rfl rfl (by kernel_rfl) (by kernel_rfl) (by kernel_rfl) (fun _ _ _ h => h) (Or.inl ⟨by rfl, by intro W hW; clear hW; go_simp⟩) d10.out ?_
  simp only [List.setIfInBounds_toArray, List.set_cons_zero, List.set_cons_succ]
  refine takeD (i := 8) (d := 85) (v := .pointer (some ⟨gh, 0, none⟩)) rfl rfl (by kernel_rfl) (by kernel_rfl) (by kernel_rfl) (fun _ _ _ h => h) (Or.inl ⟨by rfl, by intro W hW; have cc := (nQ.out W hW).high; clear hW; go_simp⟩) d10.out ?_
  simp only [List.setIfInBounds_toArray, List.set_cons_zero, List.set_cons_succ]
  refine takeD (i := 9) (d := 86) (v := .pointer (some ⟨S1, 0, none⟩)) rfl rfl (by kernel_rfl) (by kernel_rfl) (by kernel_rfl) (fun _ _ _ h => h) (Or.inl ⟨by rfl, by intro W hW; clear hW; go_simp⟩) d10.out ?_
  simp only [List.setIfInBounds_toArray, List.set_cons_zero, List.set_cons_succ]
  refine takeD (i := 10) (d := 87) (v := .string F.1) rfl rfl (by kernel_rfl) (by kernel_rfl) (by kernel_rfl) (fun _ _ _ h => h) (Or.inl ⟨by rfl, by intro W hW; have cc := (sB.out W hW) 0 _ rfl; clear hW; go_simp⟩) d10.out ?_
  simp only [List.setIfInBounds_toArray, List.set_cons_zero, List.set_cons_succ]
  refine wpAnyH_ready (rs := [11]) (by kernel_rfl) (by simp) ?_
  refine AllReadyH.cons rfl (fun K hK => ?_) AllReadyH.nil
  go_simp
  go_wp2_with (go_at_call 51; refine (ih'.out _ _ (tQ2.out _ d10.out)).mono ?_; rintro e w1 ⟨⟨v1, rfl, t1⟩, b1⟩; skip)
  have e1 : Hid (Below wq.heap.size wq w1) := Lib.hid (d10.out.trans (b1.mono d10.out.size))
  have s1 := Lib.hid t1
  clear t1 b1
  refine hK.out _ _ e1.out (fun _ => ?_)
  clear hK K
  refine wpAnyH_ready (rs := [12]) (by kernel_rfl) (by simp) ?_
  refine AllReadyH.cons rfl (fun K hK => ?_) AllReadyH.nil
  go_simp
  go_wp2_with (go_at_call 56; refine (even_any _ F l (h.without F.1) _ _ (tQ1.out _ e1.out) s1.out hc'.out).mono ?_; rintro e w2 ⟨⟨v2, rfl, t2⟩, b2⟩; skip)
  have e2 : Hid (Below wq.heap.size wq w2) := Lib.hid (e1.out.trans (b2.mono e1.out.size))
  have s2 := Lib.hid t2
  clear t2 b2
  refine hK.out _ _ e2.out (fun _ => ?_)
  clear hK K
  refine wpAnyH_ready (rs := [13]) (by kernel_rfl) (by simp) ?_
  refine AllReadyH.cons rfl (fun K hK => ?_) AllReadyH.nil
  go_simp
  refine hK.out _ _ e2.out (fun _ => ?_)
  clear hK K
  refine wpAnyH_done (by kernel_rfl) ?_ _
  go_wp2_with fail
  go_ret
  exact ⟨⟨_, rfl, s2.out⟩, zq.out.trans (e2.out.mono zq.out.size)⟩
end Go.Proofs.Ytakcnkmlglkkpaa

namespace Go.Proofs.Ytakcnkmlglkkpaa
open Go.RowKit
set_option linter.unusedSimpArgs false
set_option linter.unusedVariables false

theorem cnt_even (r : RootT) (l h : Tr) : (Tr.even r l h).cnt = 1 + l.cnt + h.cnt := by
  rw [← Tr.cnt_list, Tr.even_list, ← Tr.cnt_list l, ← Tr.cnt_list h]
  simp only [List.length_append, List.length_cons]
  omega
theorem with_cnt (r : RootT) : ∀ t : Tr, (t.with_ r).cnt ≤ t.cnt + 1
  | .nil => by simp [Tr.with_, Tr.cnt]
  | .node x l h => by
    have h1 := with_cnt r l
    have h2 := with_cnt r h
    simp only [Tr.with_]
    split
    · rw [cnt_even]; simp only [Tr.cnt]; omega
    · split
      · rw [cnt_even]; simp only [Tr.cnt]; omega
      · simp only [Tr.cnt]; omega
theorem without_cnt : ∀ (t : Tr) (s : ByteArray), (t.without s).cnt ≤ t.cnt
  | .nil, s => by simp [Tr.without, Tr.cnt]
  | .node x l h, s => by
    have h1 := without_cnt l s
    have h2 := without_cnt h
    unfold Tr.without
    split
    · rw [cnt_even]; simp only [Tr.cnt]; omega
    · split
      · have := h2 s; rw [cnt_even]; simp only [Tr.cnt]; omega
      · cases l with
        | nil => simp only [Tr.cnt]; omega
        | node a b c =>
          cases h with
          | nil => simp only [Tr.cnt]; omega
          | node d e f =>
            have := h2 ((Tr.node d e f).least x).1
            simp only
            rw [cnt_even]
            simp only [Tr.cnt] at this ⊢
            omega
set_option maxRecDepth 100000 in
set_option maxHeartbeats 4000000 in
theorem with_N (w : World) (r : RootT) : Calls Try.prog 49 #[.pointer none, .agg (encR r).toArray] w fun e w' => (∃ v', e = .returned v' ∧ TreeAt w' (Tr.node r .nil .nil) v') ∧ Below w.heap.size w w' := by
  have hi33 : (Try.prog.info? 61).map (·.size) = some 33 := by kernel_rfl
  have hi33' := Lib.hid hi33
  have a33 : Hid (∀ r : RootT, (encR r).toArray.size = 33) := Lib.hid fun r => by simp [encR_length]
  have hb0 : Hid (Below w.heap.size w (w.alloc (.cells (encR r).toArray 61))) := Lib.hid ((Below.refl _ _).alloc (Nat.le_refl _) _)
  have hx0 := Lib.hid (heap_alloc_new w (.cells (encR r).toArray 61))
  have hj := Lib.hid (join_any (w.alloc (.cells (encR r).toArray 61)) r .nil .nil (.pointer none) (.pointer none) rfl rfl (by decide))
  clear hi33
  go_enter Try.func49, Try.ntmps49
  go_wp2_with (first
    | (refine wpList_load_row rfl 61 _ rfl w.heap.size rfl 61 _ (0, 0) _ hx0.out Try.underlying61 rfl (by rw [a33.out]; exact hi33'.out) ?_)
    | (go_at_call 55
       refine hj.out.mono ?_
       rintro e w2 ⟨⟨v, rfl, tv⟩, b2⟩
       have tv' := Lib.hid tv
       have hb2 := Lib.hid (hb0.out.trans (b2.mono hb0.out.size))
       clear tv b2))
  go_ret
  exact ⟨⟨_, rfl, tv'.out⟩, hb2.out⟩
theorem with_any (r : RootT) : ∀ (t : Tr) (w : World) (v : Value), TreeAt w t v → t.cnt ≤ 900000 →
    Calls Try.prog 49 #[v, .agg (encR r).toArray] w fun e w' => (∃ v', e = .returned v' ∧ TreeAt w' (t.with_ r) v') ∧ Below w.heap.size w w'
  | .nil, w, v, ht, _ => by
    obtain rfl := ht
    exact with_N w r
  | .node x l h, w, v, ht, hn => by
    have hl : l.cnt + h.cnt + 1 ≤ 900000 := by simp only [Tr.cnt] at hn; omega
    have c1 := with_cnt r l
    have c2 := with_cnt r h
    simp only [Tr.with_]
    cases h1 : ltS r.1 x.1 with
    | true =>
      rw [if_pos rfl]
      exact with_L w r x l h v ht (by omega) h1 fun W u hu => with_any r l W u hu (by omega)
    | false =>
      rw [if_neg (by decide)]
      cases h2 : ltS x.1 r.1 with
      | true =>
        rw [if_pos rfl]
        exact with_H w r x l h v ht (by omega) h1 h2 fun W u hu => with_any r h W u hu (by omega)
      | false =>
        rw [if_neg (by decide)]
        exact with_S w r x l h v ht (by omega) h1 h2
theorem without_any : ∀ (t : Tr) (s : ByteArray) (w : World) (v : Value), TreeAt w t v → t.cnt ≤ 900000 → Rise t.list → hasL s t.list →
    Calls Try.prog 51 #[v, .string s] w fun e w' => (∃ v', e = .returned v' ∧ TreeAt w' (t.without s) v') ∧ Below w.heap.size w w'
  | .nil, s, w, v, ht, _, _, ⟨_, hm, _⟩ => nomatch hm
  | .node x l h, s, w, v, ht, hn, hr, ⟨y, hm, hy⟩ => by
    have hl : l.cnt + h.cnt + 1 ≤ 900000 := by simp only [Tr.cnt] at hn; omega
    have c1 := without_cnt l s
    have c2 := without_cnt h
    simp only [Tr.list] at hr hm
    rw [rise_app] at hr
    obtain ⟨r1, ⟨r2, r3⟩, r4⟩ := hr
    simp only [List.mem_append, List.mem_cons] at hm
    unfold Tr.without
    cases h1 : ltS s x.1 with
    | true =>
      rw [if_pos rfl]
      have hs : hasL s l.list := by
        rcases hm with hm | rfl | hm
        · exact ⟨y, hm, hy⟩
        · rw [ltS_right hy, ltS_irrefl] at h1
          cases h1
        · have := ltS_trans h1 (r2 y hm)
          rw [ltS_right hy, ltS_irrefl] at this
          cases this
      exact without_L w s x l h v ht (by omega) h1 fun W u hu => without_any l s W u hu (by omega) r1 hs
    | false =>
      rw [if_neg (by decide)]
      cases h2 : ltS x.1 s with
      | true =>
        rw [if_pos rfl]
        have hs : hasL s h.list := by
          rcases hm with hm | rfl | hm
          · have := ltS_trans (r4 y hm x (by simp)) h2
            rw [ltS_left hy, ltS_irrefl] at this
            cases this
          · rw [ltS_left hy, ltS_irrefl] at h2
            cases h2
          · exact ⟨y, hm, hy⟩
        have := c2 s
        exact without_H w s x l h v ht (by omega) h1 h2 fun W u hu => without_any h s W u hu (by omega) r3 hs
      | false =>
        rw [if_neg (by decide)]
        cases l with
        | nil => exact without_A w s x .nil h v ht h1 h2 rfl
        | node a b c =>
          cases h with
          | nil => exact without_B w s x (.node a b c) .nil v ht h1 h2 ⟨_, _, _, rfl⟩ rfl
          | node d e f =>
            have := c2 ((Tr.node d e f).least x).1
            obtain ⟨m, hm⟩ := least_list (.node d e f) x d e f rfl
            exact without_M w s x (.node a b c) (.node d e f) v ht (by omega) h1 h2 ⟨_, _, _, rfl⟩ ⟨_, _, _, rfl⟩ fun W u hu => without_any (.node d e f) _ W u hu (by omega) r3 ⟨_, by rw [hm]; simp, rfl⟩
end Go.Proofs.Ytakcnkmlglkkpaa

namespace Go.Proofs.Ytakcnkmlglkkpaa
open Go.RowKit
set_option linter.unusedSimpArgs false
set_option linter.unusedVariables false

set_option maxRecDepth 100000 in
set_option maxHeartbeats 4000000 in
theorem find_any (w : World) (t : Tr) (v : Value) (s : ByteArray) (ht : TreeAt w t v) :
    Calls Try.prog 48 #[v, .string s] w fun e w' => (∃ v', e = .returned v' ∧ TreeAt w (t.find s) v') ∧ w = w' := by
  have ht' := Lib.hid ht
  obtain ⟨F, hF⟩ : ∃ F, Hid (∀ _ : Unit, t.find s = F) := ⟨_, Lib.hid fun _ => rfl⟩
  rw [hF.out ()]
  clear ht
  go_enter Try.func48, Try.ntmps48
  go_wp2_with fail
  go_loop [0] (fun x => ∃ u : Tr, Hid (TreeAt w u x) ∧ Hid (∀ _ : Unit, u.find s = F)) (fun x => blk x)
  case atStart => exact ⟨t, ht', hF⟩
  case round =>
    obtain ⟨u, hu, hf⟩ := hrel
    cases u with
    | nil =>
      obtain rfl := hu.out
      go_wp2_with fail
      go_ret
      exact ⟨⟨_, rfl, by rw [← hf.out ()]; rfl⟩, rfl⟩
    | node r l h =>
      have hN := Lib.hid hu.out
      obtain ⟨g, vl, vh, rfl, hg, hk, tl, th⟩ := hu.out
      have c0 := NodeAt.name ⟨hg⟩
      have c1 := NodeAt.low ⟨hg⟩
      have c2 := NodeAt.high ⟨hg⟩
      obtain ⟨kl, kh⟩ := hk
      have hl' := Lib.hid tl
      have hh' := Lib.hid th
      have kl' := Lib.hid kl
      have kh' := Lib.hid kh
      clear hg tl th kl kh hu
      by_cases he : r.1.toList = s.toList
      · have q : (r.1.toList == s.toList) = true := by rw [he]; simp
        have hf2 : Hid (F = Tr.node r l h) := Lib.hid (by rw [← hf.out ()]; unfold Tr.find; rw [if_pos he])
        clear he
        go_wp2_with fail
        go_ret
        exact ⟨⟨_, rfl, by rw [hf2.out]; exact hN.out⟩, rfl⟩
      · have q : (r.1.toList == s.toList) = false := by simpa using he
        cases hlt : ltS s r.1 with
        | true =>
          have q2 : Op.bytesLess s.toList r.1.toList = true := hlt
          have e2 : (Tr.node r l h).find s = l.find s := by rw [Tr.find, if_neg he, if_pos hlt]
          have hf2 : Hid (∀ _ : Unit, l.find s = F) := Lib.hid fun _ => e2.symm.trans (hf.out ())
          clear he hlt e2
          go_wp2_with fail
          go_round
          case rel => exact ⟨l, hl', hf2⟩
          case measure => have := kl'.out; show blk vl < g + 1; omega
        | false =>
          have q2 : Op.bytesLess s.toList r.1.toList = false := hlt
          have e2 : (Tr.node r l h).find s = h.find s := by rw [Tr.find, if_neg he, if_neg (by rw [hlt]; decide)]
          have hf2 : Hid (∀ _ : Unit, h.find s = F) := Lib.hid fun _ => e2.symm.trans (hf.out ())
          clear he hlt e2
          go_wp2_with fail
          go_round
          case rel => exact ⟨h, hh', hf2⟩
          case measure => have := kh'.out; show blk vh < g + 1; omega
end Go.Proofs.Ytakcnkmlglkkpaa
