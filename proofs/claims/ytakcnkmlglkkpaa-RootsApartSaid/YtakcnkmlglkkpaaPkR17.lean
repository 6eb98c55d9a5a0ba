/- Set and Drop of a table, where they change it. (Printed by tools/genset2.py.) -/
import Derived.Test.YtakcnkmlglkkpaaPkR15

namespace Go.Proofs.Ytakcnkmlglkkpaa
open Go.RowKit
set_option linter.unusedSimpArgs false
set_option linter.unusedVariables false

set_option maxRecDepth 100000 in
set_option maxHeartbeats 8000000 in
theorem set_okB (w : World) {B g c : Nat} {A : Option Addr} {vs : List Tr} {ps : List Value} (h : Tbl w B g A c vs ps) (hmany : vs.length < 100000) {t : Tr} (ht : vs[vs.length - 1]? = some t) (s : ByteArray) (k : RKey) (hs : Name s) (hc : 64 ≤ t.cnt) (hfd : t.find s ≠ .nil) :
    Calls Try.prog 20 #[.pointer (some ⟨g, 0, none⟩), .string s, .agg (encKy k).toArray] w fun e w' => e = .returned (.int .i64 0) ∧ Chd w B g A (vs ++ [(t.with_ (s, k))]) w' := by
  have hi32 : Hid ((Try.prog.info? 35).map (·.size) = some 32) := Lib.hid (by kernel_rfl)
  have a32 : Hid (∀ k : RKey, (encKy k).toArray.size = 32) := Lib.hid fun k => by simp [encKy_length]
  obtain ⟨w0, hw0⟩ : ∃ w0, Hid (∀ _ : Unit, w.alloc (.cells (encKy k).toArray 35) = w0) := ⟨_, Lib.hid fun _ => rfl⟩
  have hb0 : Hid (Below w.heap.size w w0) := Lib.hid (by rw [← hw0.out ()]; exact (Below.refl _ _).alloc (Nat.le_refl _) _)
  have xk0 : Hid (w0.heap[w.heap.size]? = some (.cells (encKy k).toArray 35 (0, 0))) := Lib.hid (by rw [← hw0.out ()]; exact heap_alloc_new w _)
  have hmem := List.mem_of_getElem? ht
  have h64 := h.few t hmem
  have hrt := h.rise t hmem
  have hnt := h.nam t hmem
  have hT := Lib.hid h
  have hn := Lib.hid (namedT_any w0 (h.below hb0.out) ht s)
  have hbig : Hid (t.cnt ≤ 900000) := Lib.hid (by omega)
  have hin : hasL s t.list := by
    rcases find_list t s hrt with ⟨e, _⟩ | ⟨x, l, h, e, h1, h2⟩
    · exact absurd e hfd
    · exact ⟨x, h1, h2⟩
  have hin' := Lib.hid hin
  have hri : Hid (Rise (t.with_ (s, k)).list) := Lib.hid (by rw [with_list _ _ hrt]; exact setL_rise _ hrt)
  have hna : Hid (∀ r ∈ (t.with_ (s, k)).list, Name r.1) := Lib.hid (by
    rw [with_list _ _ hrt]
    intro r hr
    rcases mem_setL _ hr with rfl | hr
    · exact hs
    · exact hnt r hr)
  have hfw : Hid ((t.with_ (s, k)).cnt ≤ 64) := Lib.hid (by rw [← Tr.cnt_list, with_list _ _ hrt, setL_len _ hrt hin, Tr.cnt_list]; exact h64)
  obtain ⟨x, l1, h1, hF⟩ : ∃ x l h, t.find s = .node x l h := by
    cases hf : t.find s with
    | nil => exact absurd hf hfd
    | node x l h => exact ⟨x, l, h, rfl⟩
  have hF' := Lib.hid hF
  have hfi : Hid (∀ (m : Nat) (p : Value), TreeAt w0 t p → Calls Try.prog 48 #[p, .string s] (w0.drewN m) fun e w' => (∃ gn, e = .returned (.pointer (some ⟨gn, 0, none⟩))) ∧ w0.drewN m = w') := Lib.hid fun m p hp => by
    refine (find_any (w0.drewN m) t p s (hp.drew m)).mono ?_
    rintro e w' ⟨⟨v', h1, h2⟩, h3⟩
    rw [hF'.out] at h2
    obtain ⟨gn, _, _, rfl, _⟩ := h2
    exact ⟨⟨gn, h1⟩, h3⟩
  have hco : Hid (∀ (m : Nat) (p : Value), TreeAt w0 t p → Calls Try.prog 47 #[p] (w0.drewN m) fun e w' => e = .returned (.int .i64 (t.cnt : Nat)) ∧ w0.drewN m = w') := Lib.hid fun m p hp => count_any (w0.drewN m) t p (hp.drew m)
  have g1 : (64 : Int) ≤ (t.cnt : Int) := by omega
  clear h ht hmem h64 hrt hnt hc hin hF hfd
  go_enter Try.func20, Try.ntmps20
  go_wp2_with fail
  rw [hw0.out ()]
  go_wp2_with (first
    | (go_at_call 46; refine hn.out.mono ?_; rintro e w9 ⟨(⟨p, rfl, _, tp⟩ | ⟨rfl, hs2⟩), m, rfl⟩)
    | (go_at_call 47; refine (hco.out m p tp).mono ?_; rintro e w9 ⟨rfl, rfl⟩)
    | (go_at_call 48; refine (hfi.out m p tp).mono ?_; rintro e w9 ⟨⟨gn, rfl⟩, rfl⟩))
  rotate_left
  · exact absurd hs hs2
  obtain ⟨wq, hwq⟩ : ∃ wq, Hid (∀ _ : Unit, w0.drewN m = wq) := ⟨_, Lib.hid fun _ => rfl⟩
  rw [hwq.out ()]
  have zq : Hid (Below w.heap.size w wq) := Lib.hid (by rw [← hwq.out ()]; exact below_drewN hb0.out m)
  have c0 := (hT.out.below zq.out).cell
  have fq := (hT.out.below zq.out).frozen
  have xk : Hid (wq.heap[w.heap.size]? = some (.cells (encKy k).toArray 35 (0, 0))) := Lib.hid (by rw [← hwq.out ()]; exact xk0.out)
  have hcall : Hid (Calls Try.prog 49 #[p, .agg (encR (s, k)).toArray] (World.drew wq) fun e w' => (∃ v', e = .returned v' ∧ TreeAt w' (t.with_ (s, k)) v') ∧ Below (World.drew wq).heap.size (World.drew wq) w') := Lib.hid (by
    rw [← hwq.out ()]
    exact with_any (s, k) t (World.drew (w0.drewN m)) p (tp.drew (m + 1)) hbig.out)
  obtain ⟨pa, rfl⟩ := tp.ptr
  clear tp hwq hn xk0 hco hfi
  refine wp_region_any (by kernel_rfl) ?_
  change wpAny _ _ _ _ _ _ _ (World.drew _)
  refine takeA (i := 0) (d := 27) (v := .pointer (some ⟨g, 0, none⟩)) rfl rfl (by kernel_rfl) (by kernel_rfl) (by kernel_rfl) (fun _ _ _ h => h) (Or.inl ⟨by rfl, by intro W; go_simp⟩) ?_
  simp only [List.setIfInBounds_toArray, List.set_cons_zero, List.set_cons_succ]
  refine takeA (i := 1) (d := 28) (v := .pointer (some ⟨g, 0, none⟩)) rfl rfl (by kernel_rfl) (by kernel_rfl) (by kernel_rfl) (fun _ _ _ h => h) (Or.inl ⟨by rfl, by intro W; go_simp⟩) ?_
  simp only [List.setIfInBounds_toArray, List.set_cons_zero, List.set_cons_succ]
  refine takeA (i := 2) (d := 29) (v := .pointer (some ⟨g, 0, none⟩)) rfl rfl (by kernel_rfl) (by kernel_rfl) (by kernel_rfl) (fun _ _ _ h => h) (Or.inl ⟨by rfl, by intro W; go_simp⟩) ?_
  simp only [List.setIfInBounds_toArray, List.set_cons_zero, List.set_cons_succ]
  refine takeA (i := 3) (d := 30) (v := .pointer (some ⟨g, 0, none⟩)) rfl rfl (by kernel_rfl) (by kernel_rfl) (by kernel_rfl) (fun _ _ _ h => h) (Or.inl ⟨by rfl, by intro W; go_simp⟩) ?_
  simp only [List.setIfInBounds_toArray, List.set_cons_zero, List.set_cons_succ]
  refine takeA (i := 5) (d := 32) (v := .pointer pa) rfl rfl (by kernel_rfl) (by kernel_rfl) (by kernel_rfl) (fun _ _ _ h => h) (Or.inl ⟨by rfl, by intro W; go_simp⟩) ?_
  simp only [List.setIfInBounds_toArray, List.set_cons_zero, List.set_cons_succ]
  refine takeA (i := 6) (d := 33) (v := .string s) rfl rfl (by kernel_rfl) (by kernel_rfl) (by kernel_rfl) (fun _ _ _ h => h) (Or.inl ⟨by rfl, by intro W; go_simp⟩) ?_
  simp only [List.setIfInBounds_toArray, List.set_cons_zero, List.set_cons_succ]
  refine wpAny_ready (rs := [4, 7]) (by kernel_rfl) (by simp) ?_
  refine AllReady.cons rfl (fun K hK => ?_) (AllReady.cons rfl (fun K hK => ?_) AllReady.nil)
  · go_simp
    refine hK _ _ ?_
    clear hK K
    refine wpAny_ready (rs := [7]) (by kernel_rfl) (by simp) ?_
    refine AllReady.cons rfl (fun K hK => ?_) AllReady.nil
    refine step_load_rw (by rfl) 35 _ rfl w.heap.size rfl 35 (encKy k).toArray (0, 0) _ xk.out Try.underlying35 rfl (by rw [a32.out]; exact hi32.out) ?_
    refine hK _ _ ?_
    clear hK K
    refine takeA (i := 8) (d := 35) (v := .agg (encR (s, k)).toArray) rfl rfl (by kernel_rfl) (by kernel_rfl) (by kernel_rfl) (fun _ _ _ h => h) (yields_build (by rfl) 61 _ rfl #[(0, .string s), (1, .agg (encKy k).toArray)] (by rw [List.map_toArray]; rfl) _ (fun W => buildRt s k W)) ?_
    simp only [List.setIfInBounds_toArray, List.set_cons_zero, List.set_cons_succ]
    refine wpAny_ready (rs := [9]) (by kernel_rfl) (by simp) ?_
    refine AllReady.cons rfl (fun K hK => ?_) AllReady.nil
    go_simp
    go_wp2_with (go_at_call 49; refine hcall.out.mono ?_; rintro e w1 ⟨⟨v1, rfl, t1⟩, b1⟩; skip)
    obtain ⟨q1, rfl⟩ := t1.ptr
    have hb1 := Lib.hid ((below_drewN zq.out 1).trans (b1.mono zq.out.size))
    have t1' := Lib.hid t1
    have o1 := Lib.hid ((hT.out.below hb1.out).own)
    have hB1 : Hid (B ≤ w1.heap.size) := Lib.hid (Nat.le_trans (Nat.le_trans hT.out.gB (Nat.le_of_lt hT.out.lt)) hb1.out.size)
    have c1 := (hT.out.below hb1.out).cell
    have c2 := (hT.out.below (hb1.out.alloc hb1.out.size (.cells #[.pointer q1] 81))).cell
    clear t1 b1
    refine wpAny_ready (rs := [10]) (by kernel_rfl) (by simp) ?_
    refine AllReady.cons rfl (fun K hK => ?_) AllReady.nil
    go_simp
    refine hK _ _ ?_
    clear hK K
    refine wpAny_ready (rs := [11]) (by kernel_rfl) (by simp) ?_
    refine AllReady.cons rfl (fun K hK => ?_) AllReady.nil
    refine step_app1 elN #[.pointer q1] rfl rfl _ _ rfl rfl (w := w1) o1.out rfl (by intro u hu; simp at hu; subst hu; rfl) (by unfold maxLen; omega) (by omega) hB1.out (vs.length + 1) rfl (ps ++ [.pointer q1]) rfl ?_
    intro A4 c4 w4 o4 at4 b4
    have m1 := Lib.hid (hT.out.more hb1.out t1'.out o4 at4 hfw.out hri.out hna.out hmany)
    obtain ⟨q4, f4⟩ := hT.out.mid hb1.out at4
    clear o4 at4 b4
    refine hK _ _ ?_
    clear hK K
    refine takeA (i := 12) (d := 39) (v := .pointer (some ⟨g, 0, none⟩)) rfl rfl (by kernel_rfl) (by kernel_rfl) (by kernel_rfl) (fun _ _ _ h => h) (Or.inl ⟨by rfl, by intro W; go_simp⟩) ?_
    simp only [List.setIfInBounds_toArray, List.set_cons_zero, List.set_cons_succ]
    refine takeA (i := 13) (d := 40) (v := .pointer (some ⟨g, 0, none⟩)) rfl rfl (by kernel_rfl) (by kernel_rfl) (by kernel_rfl) (fun _ _ _ h => h) (Or.inl ⟨by rfl, by intro W; go_simp⟩) ?_
    simp only [List.setIfInBounds_toArray, List.set_cons_zero, List.set_cons_succ]
    refine wpAny_ready (rs := [14]) (by kernel_rfl) (by simp) ?_
    refine AllReady.cons rfl (fun K hK => ?_) AllReady.nil
    go_simp
    refine hK _ _ ?_
    clear hK K
    refine wpAny_done (by kernel_rfl) ?_ _
    go_wp2_with fail
    go_ret
    exact ⟨rfl, _, _, _, m1.out⟩
  · refine step_load_rw (by rfl) 35 _ rfl w.heap.size rfl 35 (encKy k).toArray (0, 0) _ xk.out Try.underlying35 rfl (by rw [a32.out]; exact hi32.out) ?_
    refine hK _ _ ?_
    clear hK K
    refine takeA (i := 8) (d := 35) (v := .agg (encR (s, k)).toArray) rfl rfl (by kernel_rfl) (by kernel_rfl) (by kernel_rfl) (fun _ _ _ h => h) (yields_build (by rfl) 61 _ rfl #[(0, .string s), (1, .agg (encKy k).toArray)] (by rw [List.map_toArray]; rfl) _ (fun W => buildRt s k W)) ?_
    simp only [List.setIfInBounds_toArray, List.set_cons_zero, List.set_cons_succ]
    refine wpAny_ready (rs := [4, 9]) (by kernel_rfl) (by simp) ?_
    refine AllReady.cons rfl (fun K hK => ?_) (AllReady.cons rfl (fun K hK => ?_) AllReady.nil)
    · go_simp
      refine hK _ _ ?_
      clear hK K
      refine wpAny_ready (rs := [9]) (by kernel_rfl) (by simp) ?_
      refine AllReady.cons rfl (fun K hK => ?_) AllReady.nil
      go_simp
      go_wp2_with (go_at_call 49; refine hcall.out.mono ?_; rintro e w1 ⟨⟨v1, rfl, t1⟩, b1⟩; skip)
      obtain ⟨q1, rfl⟩ := t1.ptr
      have hb1 := Lib.hid ((below_drewN zq.out 1).trans (b1.mono zq.out.size))
      have t1' := Lib.hid t1
      have o1 := Lib.hid ((hT.out.below hb1.out).own)
      have hB1 : Hid (B ≤ w1.heap.size) := Lib.hid (Nat.le_trans (Nat.le_trans hT.out.gB (Nat.le_of_lt hT.out.lt)) hb1.out.size)
      have c1 := (hT.out.below hb1.out).cell
      have c2 := (hT.out.below (hb1.out.alloc hb1.out.size (.cells #[.pointer q1] 81))).cell
      clear t1 b1
      refine wpAny_ready (rs := [10]) (by kernel_rfl) (by simp) ?_
      refine AllReady.cons rfl (fun K hK => ?_) AllReady.nil
      go_simp
      refine hK _ _ ?_
      clear hK K
      refine wpAny_ready (rs := [11]) (by kernel_rfl) (by simp) ?_
      refine AllReady.cons rfl (fun K hK => ?_) AllReady.nil
      refine step_app1 elN #[.pointer q1] rfl rfl _ _ rfl rfl (w := w1) o1.out rfl (by intro u hu; simp at hu; subst hu; rfl) (by unfold maxLen; omega) (by omega) hB1.out (vs.length + 1) rfl (ps ++ [.pointer q1]) rfl ?_
      intro A4 c4 w4 o4 at4 b4
      have m1 := Lib.hid (hT.out.more hb1.out t1'.out o4 at4 hfw.out hri.out hna.out hmany)
      obtain ⟨q4, f4⟩ := hT.out.mid hb1.out at4
      clear o4 at4 b4
      refine hK _ _ ?_
      clear hK K
      refine takeA (i := 12) (d := 39) (v := .pointer (some ⟨g, 0, none⟩)) rfl rfl (by kernel_rfl) (by kernel_rfl) (by kernel_rfl) (fun _ _ _ h => h) (Or.inl ⟨by rfl, by intro W; go_simp⟩) ?_
      simp only [List.setIfInBounds_toArray, List.set_cons_zero, List.set_cons_succ]
      refine takeA (i := 13) (d := 40) (v := .pointer (some ⟨g, 0, none⟩)) rfl rfl (by kernel_rfl) (by kernel_rfl) (by kernel_rfl) (fun _ _ _ h => h) (Or.inl ⟨by rfl, by intro W; go_simp⟩) ?_
      simp only [List.setIfInBounds_toArray, List.set_cons_zero, List.set_cons_succ]
      refine wpAny_ready (rs := [14]) (by kernel_rfl) (by simp) ?_
      refine AllReady.cons rfl (fun K hK => ?_) AllReady.nil
      go_simp
      refine hK _ _ ?_
      clear hK K
      refine wpAny_done (by kernel_rfl) ?_ _
      go_wp2_with fail
      go_ret
      exact ⟨rfl, _, _, _, m1.out⟩
    · go_simp
      go_wp2_with (go_at_call 49; refine hcall.out.mono ?_; rintro e w1 ⟨⟨v1, rfl, t1⟩, b1⟩; skip)
      obtain ⟨q1, rfl⟩ := t1.ptr
      have hb1 := Lib.hid ((below_drewN zq.out 1).trans (b1.mono zq.out.size))
      have t1' := Lib.hid t1
      have o1 := Lib.hid ((hT.out.below hb1.out).own)
      have hB1 : Hid (B ≤ w1.heap.size) := Lib.hid (Nat.le_trans (Nat.le_trans hT.out.gB (Nat.le_of_lt hT.out.lt)) hb1.out.size)
      have c1 := (hT.out.below hb1.out).cell
      have c2 := (hT.out.below (hb1.out.alloc hb1.out.size (.cells #[.pointer q1] 81))).cell
      clear t1 b1
      refine wpAny_ready (rs := [4, 10]) (by kernel_rfl) (by simp) ?_
      refine AllReady.cons rfl (fun K hK => ?_) (AllReady.cons rfl (fun K hK => ?_) AllReady.nil)
      · go_simp
        refine hK _ _ ?_
        clear hK K
        refine wpAny_ready (rs := [10]) (by kernel_rfl) (by simp) ?_
        refine AllReady.cons rfl (fun K hK => ?_) AllReady.nil
        go_simp
        refine hK _ _ ?_
        clear hK K
        refine wpAny_ready (rs := [11]) (by kernel_rfl) (by simp) ?_
        refine AllReady.cons rfl (fun K hK => ?_) AllReady.nil
        refine step_app1 elN #[.pointer q1] rfl rfl _ _ rfl rfl (w := w1) o1.out rfl (by intro u hu; simp at hu; subst hu; rfl) (by unfold maxLen; omega) (by omega) hB1.out (vs.length + 1) rfl (ps ++ [.pointer q1]) rfl ?_
        intro A4 c4 w4 o4 at4 b4
        have m1 := Lib.hid (hT.out.more hb1.out t1'.out o4 at4 hfw.out hri.out hna.out hmany)
        obtain ⟨q4, f4⟩ := hT.out.mid hb1.out at4
        clear o4 at4 b4
        refine hK _ _ ?_
        clear hK K
        refine takeA (i := 12) (d := 39) (v := .pointer (some ⟨g, 0, none⟩)) rfl rfl (by kernel_rfl) (by kernel_rfl) (by kernel_rfl) (fun _ _ _ h => h) (Or.inl ⟨by rfl, by intro W; go_simp⟩) ?_
        simp only [List.setIfInBounds_toArray, List.set_cons_zero, List.set_cons_succ]
        refine takeA (i := 13) (d := 40) (v := .pointer (some ⟨g, 0, none⟩)) rfl rfl (by kernel_rfl) (by kernel_rfl) (by kernel_rfl) (fun _ _ _ h => h) (Or.inl ⟨by rfl, by intro W; go_simp⟩) ?_
        simp only [List.setIfInBounds_toArray, List.set_cons_zero, List.set_cons_succ]
        refine wpAny_ready (rs := [14]) (by kernel_rfl) (by simp) ?_
        refine AllReady.cons rfl (fun K hK => ?_) AllReady.nil
        go_simp
        refine hK _ _ ?_
        clear hK K
        refine wpAny_done (by kernel_rfl) ?_ _
        go_wp2_with fail
        go_ret
        exact ⟨rfl, _, _, _, m1.out⟩
      · go_simp
        refine hK _ _ ?_
        clear hK K
        refine wpAny_ready (rs := [4]) (by kernel_rfl) (by simp) ?_
        refine AllReady.cons rfl (fun K hK => ?_) AllReady.nil
        go_simp
        refine hK _ _ ?_
        clear hK K
        refine wpAny_ready (rs := [11]) (by kernel_rfl) (by simp) ?_
        refine AllReady.cons rfl (fun K hK => ?_) AllReady.nil
        refine step_app1 elN #[.pointer q1] rfl rfl _ _ rfl rfl (w := w1) o1.out rfl (by intro u hu; simp at hu; subst hu; rfl) (by unfold maxLen; omega) (by omega) hB1.out (vs.length + 1) rfl (ps ++ [.pointer q1]) rfl ?_
        intro A4 c4 w4 o4 at4 b4
        have m1 := Lib.hid (hT.out.more hb1.out t1'.out o4 at4 hfw.out hri.out hna.out hmany)
        obtain ⟨q4, f4⟩ := hT.out.mid hb1.out at4
        clear o4 at4 b4
        refine hK _ _ ?_
        clear hK K
        refine takeA (i := 12) (d := 39) (v := .pointer (some ⟨g, 0, none⟩)) rfl rfl (by kernel_rfl) (by kernel_rfl) (by kernel_rfl) (fun _ _ _ h => h) (Or.inl ⟨by rfl, by intro W; go_simp⟩) ?_
        simp only [List.setIfInBounds_toArray, List.set_cons_zero, List.set_cons_succ]
        refine takeA (i := 13) (d := 40) (v := .pointer (some ⟨g, 0, none⟩)) rfl rfl (by kernel_rfl) (by kernel_rfl) (by kernel_rfl) (fun _ _ _ h => h) (Or.inl ⟨by rfl, by intro W; go_simp⟩) ?_
        simp only [List.setIfInBounds_toArray, List.set_cons_zero, List.set_cons_succ]
        refine wpAny_ready (rs := [14]) (by kernel_rfl) (by simp) ?_
        refine AllReady.cons rfl (fun K hK => ?_) AllReady.nil
        go_simp
        refine hK _ _ ?_
        clear hK K
        refine wpAny_done (by kernel_rfl) ?_ _
        go_wp2_with fail
        go_ret
        exact ⟨rfl, _, _, _, m1.out⟩
end Go.Proofs.Ytakcnkmlglkkpaa
