/- Set and Drop of a table, where they change it. (Printed by tools/genset2.py.) Set, Drop and Get of a table, in words of lists. -/
import Derived.Test.YtakcnkmlglkkpaaPkR15
import Derived.Test.YtakcnkmlglkkpaaPkR16
import Derived.Test.YtakcnkmlglkkpaaPkR17

namespace Go.Proofs.Ytakcnkmlglkkpaa
open Go.RowKit
set_option linter.unusedSimpArgs false
set_option linter.unusedVariables false

set_option maxRecDepth 100000 in
set_option maxHeartbeats 8000000 in
theorem drop_ok (w : World) {B g c : Nat} {A : Option Addr} {vs : List Tr} {ps : List Value} (h : Tbl w B g A c vs ps) (hmany : vs.length < 100000) {t : Tr} (ht : vs[vs.length - 1]? = some t) (s : ByteArray) (hs : Name s) (hfd : t.find s ≠ .nil) :
    Calls Try.prog 28 #[.pointer (some ⟨g, 0, none⟩), .string s] w fun e w' => e = .returned (.int .i64 0) ∧ Chd w B g A (vs ++ [(t.without s)]) w' := by
  obtain ⟨w0, hw0⟩ : ∃ w0, w = w0 := ⟨_, rfl⟩
  have hb0 : Hid (Below w.heap.size w w0) := Lib.hid (by rw [← hw0]; exact Below.refl _ _)
  have hmem := List.mem_of_getElem? ht
  have h64 := h.few t hmem
  have hrt := h.rise t hmem
  have hnt := h.nam t hmem
  have hT := Lib.hid h
  have hn := Lib.hid (namedT_any w0 (h.below hb0.out) ht s)
  have hbig : Hid (t.cnt ≤ 900000) := Lib.hid (by omega)
  have hin : hasL s t.list := by
    rcases find_list t s hrt with ⟨e, _⟩ | ⟨x, l, h, e, h1, h2⟩
    · exact absurd e hfd
    · exact ⟨x, h1, h2⟩
  have hin' := Lib.hid hin
  have hri : Hid (Rise (t.without s).list) := Lib.hid (by rw [without_list _ _ hrt]; exact dropL_rise _ hrt)
  have hna : Hid (∀ r ∈ (t.without s).list, Name r.1) := Lib.hid (by
    rw [without_list _ _ hrt]
    intro r hr
    exact hnt r (mem_dropL _ hr))
  have hfw : Hid ((t.without s).cnt ≤ 64) := Lib.hid (Nat.le_trans (without_cnt t s) h64)
  have hrt' := Lib.hid hrt
  obtain ⟨x, l1, h1, hF⟩ : ∃ x l h, t.find s = .node x l h := by
    cases hf : t.find s with
    | nil => exact absurd hf hfd
    | node x l h => exact ⟨x, l, h, rfl⟩
  have hF' := Lib.hid hF
  have hfi : Hid (∀ (m : Nat) (p : Value), TreeAt w0 t p → Calls Try.prog 48 #[p, .string s] (w0.drewN m) fun e w' => (∃ gn, e = .returned (.pointer (some ⟨gn, 0, none⟩))) ∧ w0.drewN m = w') := Lib.hid fun m p hp => by
    refine (find_any (w0.drewN m) t p s (hp.drew m)).mono ?_
    rintro e w' ⟨⟨v', h1, h2⟩, h3⟩
    rw [hF'.out] at h2
    obtain ⟨gn, _, _, rfl, _⟩ := h2
    exact ⟨⟨gn, h1⟩, h3⟩
  clear h ht hmem h64 hrt hnt hin hF hfd
  subst hw0
  go_enter Try.func28, Try.ntmps28
  go_wp2_with (first
    | (go_at_call 46; refine hn.out.mono ?_; rintro e w9 ⟨(⟨p, rfl, _, tp⟩ | ⟨rfl, hs2⟩), m, rfl⟩)
    | (go_at_call 48; refine (hfi.out m p tp).mono ?_; rintro e w9 ⟨⟨gn, rfl⟩, rfl⟩))
  rotate_left
  · exact absurd hs hs2
  obtain ⟨wq, hwq⟩ : ∃ wq, Hid (∀ _ : Unit, w.drewN m = wq) := ⟨_, Lib.hid fun _ => rfl⟩
  rw [hwq.out ()]
  have zq : Hid (Below w.heap.size w wq) := Lib.hid (by rw [← hwq.out ()]; exact below_drewN hb0.out m)
  have c0 := (hT.out.below zq.out).cell
  have fq := (hT.out.below zq.out).frozen
  have hcall : Hid (Calls Try.prog 51 #[p, .string s] (World.drew wq) fun e w' => (∃ v', e = .returned v' ∧ TreeAt w' (t.without s) v') ∧ Below (World.drew wq).heap.size (World.drew wq) w') := Lib.hid (by
    rw [← hwq.out ()]
    exact without_any t s (World.drew (w.drewN m)) p (tp.drew (m + 1)) hbig.out hrt'.out hin'.out)
  obtain ⟨pa, rfl⟩ := tp.ptr
  clear tp hwq hn hfi
  refine wp_region_any (by kernel_rfl) ?_
  change wpAny _ _ _ _ _ _ _ (World.drew _)
  refine takeA (i := 0) (d := 20) (v := .pointer (some ⟨g, 0, none⟩)) rfl rfl (by kernel_rfl) (by kernel_rfl) (by kernel_rfl) (fun _ _ _ h => h) (Or.inl ⟨by rfl, by intro W; go_simp⟩) ?_
  simp only [List.setIfInBounds_toArray, List.set_cons_zero, List.set_cons_succ]
  refine takeA (i := 1) (d := 21) (v := .pointer (some ⟨g, 0, none⟩)) rfl rfl (by kernel_rfl) (by kernel_rfl) (by kernel_rfl) (fun _ _ _ h => h) (Or.inl ⟨by rfl, by intro W; go_simp⟩) ?_
  simp only [List.setIfInBounds_toArray, List.set_cons_zero, List.set_cons_succ]
  refine takeA (i := 2) (d := 22) (v := .pointer (some ⟨g, 0, none⟩)) rfl rfl (by kernel_rfl) (by kernel_rfl) (by kernel_rfl) (fun _ _ _ h => h) (Or.inl ⟨by rfl, by intro W; go_simp⟩) ?_
  simp only [List.setIfInBounds_toArray, List.set_cons_zero, List.set_cons_succ]
  refine takeA (i := 3) (d := 23) (v := .pointer (some ⟨g, 0, none⟩)) rfl rfl (by kernel_rfl) (by kernel_rfl) (by kernel_rfl) (fun _ _ _ h => h) (Or.inl ⟨by rfl, by intro W; go_simp⟩) ?_
  simp only [List.setIfInBounds_toArray, List.set_cons_zero, List.set_cons_succ]
  refine takeA (i := 5) (d := 25) (v := .pointer pa) rfl rfl (by kernel_rfl) (by kernel_rfl) (by kernel_rfl) (fun _ _ _ h => h) (Or.inl ⟨by rfl, by intro W; go_simp⟩) ?_
  simp only [List.setIfInBounds_toArray, List.set_cons_zero, List.set_cons_succ]
  refine takeA (i := 6) (d := 26) (v := .string s) rfl rfl (by kernel_rfl) (by kernel_rfl) (by kernel_rfl) (fun _ _ _ h => h) (Or.inl ⟨by rfl, by intro W; go_simp⟩) ?_
  simp only [List.setIfInBounds_toArray, List.set_cons_zero, List.set_cons_succ]
  refine wpAny_ready (rs := [4, 7]) (by kernel_rfl) (by simp) ?_
  refine AllReady.cons rfl (fun K hK => ?_) (AllReady.cons rfl (fun K hK => ?_) AllReady.nil)
  · go_simp
    refine hK _ _ ?_
    clear hK K
    refine wpAny_ready (rs := [7]) (by kernel_rfl) (by simp) ?_
    refine AllReady.cons rfl (fun K hK => ?_) AllReady.nil
    go_simp
    go_wp2_with (go_at_call 51; refine hcall.out.mono ?_; rintro e w1 ⟨⟨v1, rfl, t1⟩, b1⟩; skip)
    obtain ⟨q1, rfl⟩ := t1.ptr
    have hb1 := Lib.hid ((below_drewN zq.out 1).trans (b1.mono zq.out.size))
    have t1' := Lib.hid t1
    have o1 := Lib.hid ((hT.out.below hb1.out).own)
    have hB1 : Hid (B ≤ w1.heap.size) := Lib.hid (Nat.le_trans (Nat.le_trans hT.out.gB (Nat.le_of_lt hT.out.lt)) hb1.out.size)
    have c1 := (hT.out.below hb1.out).cell
    have c2 := (hT.out.below (hb1.out.alloc hb1.out.size (.cells #[.pointer q1] 81))).cell
    clear t1 b1
    refine wpAny_ready (rs := [8]) (by kernel_rfl) (by simp) ?_
    refine AllReady.cons rfl (fun K hK => ?_) AllReady.nil
    go_simp
    refine hK _ _ ?_
    clear hK K
    refine wpAny_ready (rs := [9]) (by kernel_rfl) (by simp) ?_
    refine AllReady.cons rfl (fun K hK => ?_) AllReady.nil
    refine step_app1 elN #[.pointer q1] rfl rfl _ _ rfl rfl (w := w1) o1.out rfl (by intro u hu; simp at hu; subst hu; rfl) (by unfold maxLen; omega) (by omega) hB1.out (vs.length + 1) rfl (ps ++ [.pointer q1]) rfl ?_
    intro A4 c4 w4 o4 at4 b4
    have m1 := Lib.hid (hT.out.more hb1.out t1'.out o4 at4 hfw.out hri.out hna.out hmany)
    obtain ⟨q4, f4⟩ := hT.out.mid hb1.out at4
    clear o4 at4 b4
    refine hK _ _ ?_
    clear hK K
    refine takeA (i := 10) (d := 30) (v := .pointer (some ⟨g, 0, none⟩)) rfl rfl (by kernel_rfl) (by kernel_rfl) (by kernel_rfl) (fun _ _ _ h => h) (Or.inl ⟨by rfl, by intro W; go_simp⟩) ?_
    simp only [List.setIfInBounds_toArray, List.set_cons_zero, List.set_cons_succ]
    refine takeA (i := 11) (d := 31) (v := .pointer (some ⟨g, 0, none⟩)) rfl rfl (by kernel_rfl) (by kernel_rfl) (by kernel_rfl) (fun _ _ _ h => h) (Or.inl ⟨by rfl, by intro W; go_simp⟩) ?_
    simp only [List.setIfInBounds_toArray, List.set_cons_zero, List.set_cons_succ]
    refine wpAny_ready (rs := [12]) (by kernel_rfl) (by simp) ?_
    refine AllReady.cons rfl (fun K hK => ?_) AllReady.nil
    go_simp
    refine hK _ _ ?_
    clear hK K
    refine wpAny_done (by kernel_rfl) ?_ _
    go_wp2_with fail
    go_ret
    exact ⟨rfl, _, _, _, m1.out⟩
  · go_simp
    go_wp2_with (go_at_call 51; refine hcall.out.mono ?_; rintro e w1 ⟨⟨v1, rfl, t1⟩, b1⟩; skip)
    obtain ⟨q1, rfl⟩ := t1.ptr
    have hb1 := Lib.hid ((below_drewN zq.out 1).trans (b1.mono zq.out.size))
    have t1' := Lib.hid t1
    have o1 := Lib.hid ((hT.out.below hb1.out).own)
    have hB1 : Hid (B ≤ w1.heap.size) := Lib.hid (Nat.le_trans (Nat.le_trans hT.out.gB (Nat.le_of_lt hT.out.lt)) hb1.out.size)
    have c1 := (hT.out.below hb1.out).cell
    have c2 := (hT.out.below (hb1.out.alloc hb1.out.size (.cells #[.pointer q1] 81))).cell
    clear t1 b1
    refine wpAny_ready (rs := [4, 8]) (by kernel_rfl) (by simp) ?_
    refine AllReady.cons rfl (fun K hK => ?_) (AllReady.cons rfl (fun K hK => ?_) AllReady.nil)
    · go_simp
      refine hK _ _ ?_
      clear hK K
      refine wpAny_ready (rs := [8]) (by kernel_rfl) (by simp) ?_
      refine AllReady.cons rfl (fun K hK => ?_) AllReady.nil
      go_simp
      refine hK _ _ ?_
      clear hK K
      refine wpAny_ready (rs := [9]) (by kernel_rfl) (by simp) ?_
      refine AllReady.cons rfl (fun K hK => ?_) AllReady.nil
      refine step_app1 elN #[.pointer q1] rfl rfl _ _ rfl rfl (w := w1) o1.out rfl (by intro u hu; simp at hu; subst hu; rfl) (by unfold maxLen; omega) (by omega) hB1.out (vs.length + 1) rfl (ps ++ [.pointer q1]) rfl ?_
      intro A4 c4 w4 o4 at4 b4
      have m1 := Lib.hid (hT.out.more hb1.out t1'.out o4 at4 hfw.out hri.out hna.out hmany)
      obtain ⟨q4, f4⟩ := hT.out.mid hb1.out at4
      clear o4 at4 b4
      refine hK _ _ ?_
      clear hK K
      refine takeA (i := 10) (d := 30) (v := .pointer (some ⟨g, 0, none⟩)) rfl rfl (by kernel_rfl) (by kernel_rfl) (by kernel_rfl) (fun _ _ _ h => h) (Or.inl ⟨by rfl, by intro W; go_simp⟩) ?_
      simp only [List.setIfInBounds_toArray, List.set_cons_zero, List.set_cons_succ]
      refine takeA (i := 11) (d := 31) (v := .pointer (some ⟨g, 0, none⟩)) rfl rfl (by kernel_rfl) (by kernel_rfl) (by kernel_rfl) (fun _ _ _ h => h) (Or.inl ⟨by rfl, by intro W; go_simp⟩) ?_
      simp only [List.setIfInBounds_toArray, List.set_cons_zero, List.set_cons_succ]
      refine wpAny_ready (rs := [12]) (by kernel_rfl) (by simp) ?_
      refine AllReady.cons rfl (fun K hK => ?_) AllReady.nil
      go_simp
      refine hK _ _ ?_
      clear hK K
      refine wpAny_done (by kernel_rfl) ?_ _
      go_wp2_with fail
      go_ret
      exact ⟨rfl, _, _, _, m1.out⟩
    · go_simp
      refine hK _ _ ?_
      clear hK K
      refine wpAny_ready (rs := [4]) (by kernel_rfl) (by simp) ?_
      refine AllReady.cons rfl (fun K hK => ?_) AllReady.nil
      go_simp
      refine hK _ _ ?_
      clear hK K
      refine wpAny_ready (rs := [9]) (by kernel_rfl) (by simp) ?_
      refine AllReady.cons rfl (fun K hK => ?_) AllReady.nil
      refine step_app1 elN #[.pointer q1] rfl rfl _ _ rfl rfl (w := w1) o1.out rfl (by intro u hu; simp at hu; subst hu; rfl) (by unfold maxLen; omega) (by omega) hB1.out (vs.length + 1) rfl (ps ++ [.pointer q1]) rfl ?_
      intro A4 c4 w4 o4 at4 b4
      have m1 := Lib.hid (hT.out.more hb1.out t1'.out o4 at4 hfw.out hri.out hna.out hmany)
      obtain ⟨q4, f4⟩ := hT.out.mid hb1.out at4
      clear o4 at4 b4
      refine hK _ _ ?_
      clear hK K
      refine takeA (i := 10) (d := 30) (v := .pointer (some ⟨g, 0, none⟩)) rfl rfl (by kernel_rfl) (by kernel_rfl) (by kernel_rfl) (fun _ _ _ h => h) (Or.inl ⟨by rfl, by intro W; go_simp⟩) ?_
      simp only [List.setIfInBounds_toArray, List.set_cons_zero, List.set_cons_succ]
      refine takeA (i := 11) (d := 31) (v := .pointer (some ⟨g, 0, none⟩)) rfl rfl (by kernel_rfl) (by kernel_rfl) (by kernel_rfl) (fun _ _ _ h => h) (Or.inl ⟨by rfl, by intro W; go_simp⟩) ?_
      simp only [List.setIfInBounds_toArray, List.set_cons_zero, List.set_cons_succ]
      refine wpAny_ready (rs := [12]) (by kernel_rfl) (by simp) ?_
      refine AllReady.cons rfl (fun K hK => ?_) AllReady.nil
      go_simp
      refine hK _ _ ?_
      clear hK K
      refine wpAny_done (by kernel_rfl) ?_ _
      go_wp2_with fail
      go_ret
      exact ⟨rfl, _, _, _, m1.out⟩
end Go.Proofs.Ytakcnkmlglkkpaa

namespace Go.Proofs.Ytakcnkmlglkkpaa
open Go.RowKit
set_option linter.unusedSimpArgs false
set_option linter.unusedVariables false
open Classical

section
variable {w : World} {B g c : Nat} {A : Option Addr} {vs : List Tr} {ps : List Value}
set_option maxRecDepth 100000 in
set_option maxHeartbeats 4000000 in
theorem set_bad (h : Tbl w B g A c vs ps) {t : Tr} (ht : vs[vs.length - 1]? = some t) (s : ByteArray) (k : RKey) (hq : ¬ Name s ∨ (t.find s = .nil ∧ 64 ≤ t.cnt)) :
    Calls Try.prog 20 #[.pointer (some ⟨g, 0, none⟩), .string s, .agg (encKy k).toArray] w fun e w' => ((e = .returned (.int .i64 130) ∧ ¬ Name s) ∨ (e = .returned (.int .i64 131) ∧ Name s)) ∧ Below w.heap.size w w' := by
  obtain ⟨w0, hw0⟩ : ∃ w0, Hid (∀ _ : Unit, w.alloc (.cells (encKy k).toArray 35) = w0) := ⟨_, Lib.hid fun _ => rfl⟩
  have hb0 : Hid (Below w.heap.size w w0) := Lib.hid (by rw [← hw0.out ()]; exact (Below.refl _ _).alloc (Nat.le_refl _) _)
  have hn := Lib.hid (namedT_any w0 (h.below hb0.out) ht s)
  have hco : Hid (∀ (m : Nat) (p : Value), TreeAt w0 t p → Calls Try.prog 47 #[p] (w0.drewN m) fun e w' => e = .returned (.int .i64 (t.cnt : Nat)) ∧ w0.drewN m = w') := Lib.hid fun m p hp => count_any (w0.drewN m) t p (hp.drew m)
  have hq' := Lib.hid hq
  by_cases hs : Name s
  · obtain ⟨hf, h64⟩ : t.find s = .nil ∧ 64 ≤ t.cnt := hq.resolve_left (fun h => h hs)
    have hf' := Lib.hid hf
    have hfi : Hid (∀ (m : Nat) (p : Value), TreeAt w0 t p → Calls Try.prog 48 #[p, .string s] (w0.drewN m) fun e w' => e = .returned (.pointer none) ∧ w0.drewN m = w') := Lib.hid fun m p hp => by
      refine (find_any (w0.drewN m) t p s (hp.drew m)).mono ?_
      rintro e w' ⟨⟨v', h1, h2⟩, h3⟩
      rw [hf'.out] at h2
      cases h2
      exact ⟨h1, h3⟩
    have g1 : (64 : Int) ≤ (t.cnt : Int) := by omega
    clear h ht hf h64 hq
    go_enter Try.func20, Try.ntmps20
    go_wp2_with fail
    rw [hw0.out ()]
    go_wp2_with (first
      | (go_at_call 46; refine hn.out.mono ?_; rintro e w9 ⟨(⟨p, rfl, _, tp⟩ | ⟨rfl, hs2⟩), m, rfl⟩)
      | (go_at_call 47; refine (hco.out m p tp).mono ?_; rintro e w9 ⟨rfl, rfl⟩)
      | (go_at_call 48; refine (hfi.out m p tp).mono ?_; rintro e w9 ⟨rfl, rfl⟩))
    · go_ret
      exact ⟨.inr ⟨rfl, hs⟩, below_drewN hb0.out _⟩
    · exact absurd hs hs2
  · clear h ht hq
    go_enter Try.func20, Try.ntmps20
    go_wp2_with fail
    rw [hw0.out ()]
    refine hn.out.mono ?_
    rintro e w9 ⟨(⟨p, rfl, hs2, tp⟩ | ⟨rfl, hs2⟩), m, rfl⟩
    · exact absurd hs2 hs
    · go_wp2_with fail
      go_ret
      exact ⟨.inl ⟨rfl, hs⟩, below_drewN hb0.out _⟩
theorem drop_bad (h : Tbl w B g A c vs ps) {t : Tr} (ht : vs[vs.length - 1]? = some t) (s : ByteArray) (hq : ¬ Name s ∨ t.find s = .nil) :
    Calls Try.prog 28 #[.pointer (some ⟨g, 0, none⟩), .string s] w fun e w' => ((e = .returned (.int .i64 130) ∧ ¬ Name s) ∨ (e = .returned (.int .i64 132) ∧ Name s)) ∧ Below w.heap.size w w' := by
  have hn := Lib.hid (namedT_any w h ht s)
  by_cases hs : Name s
  · have hf' := Lib.hid (hq.resolve_left (fun h => h hs))
    have hfi : Hid (∀ (m : Nat) (p : Value), TreeAt w t p → Calls Try.prog 48 #[p, .string s] (w.drewN m) fun e w' => e = .returned (.pointer none) ∧ w.drewN m = w') := Lib.hid fun m p hp => by
      refine (find_any (w.drewN m) t p s (hp.drew m)).mono ?_
      rintro e w' ⟨⟨v', h1, h2⟩, h3⟩
      rw [hf'.out] at h2
      cases h2
      exact ⟨h1, h3⟩
    clear h ht hq
    go_enter Try.func28, Try.ntmps28
    go_wp2_with (first
      | (go_at_call 46; refine hn.out.mono ?_; rintro e w9 ⟨(⟨p, rfl, _, tp⟩ | ⟨rfl, hs2⟩), m, rfl⟩)
      | (go_at_call 48; refine (hfi.out m p tp).mono ?_; rintro e w9 ⟨rfl, rfl⟩))
    · go_ret
      exact ⟨.inr ⟨rfl, hs⟩, below_drewN (Below.refl _ _) _⟩
    · exact absurd hs hs2
  · clear h ht hq
    go_enter Try.func28, Try.ntmps28
    go_wp2_with (go_at_call 46; refine hn.out.mono ?_; rintro e w9 ⟨(⟨p, rfl, hs2, tp⟩ | ⟨rfl, hs2⟩), m, rfl⟩)
    · exact absurd hs2 hs
    · go_ret
      exact ⟨.inl ⟨rfl, hs⟩, below_drewN (Below.refl _ _) _⟩
/-- The lists of the versions. -/
def listsOf (vs : List Tr) : Lists := vs.map Tr.list
theorem present_of {t : Tr} (ht : vs[vs.length - 1]? = some t) : present (listsOf vs) = t.list := by
  unfold present listsOf
  rw [List.length_map, List.getElem?_map, ht]
  rfl
/-- The table as lists. -/
def TblL (w : World) (B g : Nat) (A : Option Addr) (L : Lists) : Prop := ∃ c vs ps, listsOf vs = L ∧ Tbl w B g A c vs ps
def ChdL (w : World) (B g : Nat) (A : Option Addr) (L : Lists) (w' : World) : Prop := ∃ A', TblL w' B g A' L ∧ Gro (fun j => j = g ∨ blockOf A = some j) w w' ∧ (∀ j, blockOf A' = some j → blockOf A = some j ∨ w.heap.size ≤ j)
theorem Chd.lists {w' : World} {vs : List Tr} (h : Chd w B g A vs w') : ChdL w B g A (listsOf vs) w' := by
  obtain ⟨A', c', ps', h1, h2, h3⟩ := h
  exact ⟨A', ⟨c', vs, ps', rfl, h1⟩, h2, h3⟩
theorem TblL.last {L : Lists} (h : TblL w B g A L) : ∃ c vs ps t, listsOf vs = L ∧ Tbl w B g A c vs ps ∧ vs[vs.length - 1]? = some t ∧ present L = t.list ∧ Rise t.list ∧ t.list.length = t.cnt ∧ t.cnt ≤ 64 := by
  obtain ⟨c, vs, ps, rfl, h⟩ := h
  have := h.ne
  obtain ⟨t, ht⟩ : ∃ t, vs[vs.length - 1]? = some t := ⟨_, List.getElem?_eq_getElem (by omega)⟩
  have hm := List.mem_of_getElem? ht
  exact ⟨c, vs, ps, t, rfl, h, ht, present_of ht, h.rise t hm, Tr.cnt_list t, h.few t hm⟩
theorem TblL.still {w' : World} {L : Lists} (h : TblL w B g A L) (hb : Below w.heap.size w w') : ChdL w B g A L w' := by
  obtain ⟨c, vs, ps, rfl, h⟩ := h
  exact (h.still hb).lists
theorem set_any {L : Lists} (h : TblL w B g A L) (hm : L.length < 100000) (s : ByteArray) (k : RKey) :
    Calls Try.prog 20 #[.pointer (some ⟨g, 0, none⟩), .string s, .agg (encKy k).toArray] w fun e w' => e = .returned (.int .i64 (setQ (present L) s : Nat)) ∧ ChdL w B g A (if setQ (present L) s = 0 then L ++ [setL (s, k) (present L)] else L) w' := by
  obtain ⟨c, vs, ps, t, rfl, hT, ht, hp, hr, hc, h64⟩ := h.last
  have hmv : vs.length < 100000 := by simpa [listsOf] using hm
  rw [hp]
  unfold setQ
  by_cases hs : Name s
  · rw [if_pos hs, hc]
    by_cases hq : t.find s = .nil ∧ 64 ≤ t.cnt
    · rw [if_pos ⟨(find_has hr).1 hq.1, hq.2⟩, if_neg (by decide)]
      refine (set_bad hT ht s k (.inr hq)).mono ?_
      rintro e w' ⟨(⟨rfl, h1⟩ | ⟨rfl, h1⟩), hb⟩
      · exact absurd hs h1
      · exact ⟨rfl, (hT.still hb).lists⟩
    · rw [if_neg (fun h => hq ⟨(find_has hr).2 h.1, h.2⟩), if_pos rfl]
      have fin : ∀ (e : Ending) (w' : World), (e = .returned (.int .i64 0) ∧ Chd w B g A (vs ++ [t.with_ (s, k)]) w') → (e = .returned (.int .i64 ((0 : Nat) : Int)) ∧ ChdL w B g A (listsOf vs ++ [setL (s, k) t.list]) w') := by
        rintro e w' ⟨rfl, h1⟩
        refine ⟨rfl, ?_⟩
        have := h1.lists
        rw [show listsOf (vs ++ [t.with_ (s, k)]) = listsOf vs ++ [setL (s, k) t.list] by simp [listsOf, with_list _ _ hr]] at this
        exact this
      by_cases hc64 : t.cnt < 64
      · exact (set_okA w hT hmv ht s k hs hc64).mono fin
      · exact (set_okB w hT hmv ht s k hs (by omega) (fun e => hq ⟨e, by omega⟩)).mono fin
  · rw [if_neg hs, if_neg (by decide)]
    refine (set_bad hT ht s k (.inl hs)).mono ?_
    rintro e w' ⟨(⟨rfl, h1⟩ | ⟨rfl, h1⟩), hb⟩
    · exact ⟨rfl, (hT.still hb).lists⟩
    · exact absurd h1 hs
theorem drop_any {L : Lists} (h : TblL w B g A L) (hm : L.length < 100000) (s : ByteArray) :
    Calls Try.prog 28 #[.pointer (some ⟨g, 0, none⟩), .string s] w fun e w' => e = .returned (.int .i64 (dropQ (present L) s : Nat)) ∧ ChdL w B g A (if dropQ (present L) s = 0 then L ++ [dropL s (present L)] else L) w' := by
  obtain ⟨c, vs, ps, t, rfl, hT, ht, hp, hr, hc, h64⟩ := h.last
  have hmv : vs.length < 100000 := by simpa [listsOf] using hm
  rw [hp]
  unfold dropQ
  by_cases hs : Name s
  · rw [if_pos hs]
    by_cases hq : t.find s = .nil
    · rw [if_neg ((find_has hr).1 hq), if_neg (by decide)]
      refine (drop_bad hT ht s (.inr hq)).mono ?_
      rintro e w' ⟨(⟨rfl, h1⟩ | ⟨rfl, h1⟩), hb⟩
      · exact absurd hs h1
      · exact ⟨rfl, (hT.still hb).lists⟩
    · rw [if_pos (Classical.not_not.1 fun h => hq ((find_has hr).2 h)), if_pos rfl]
      refine (drop_ok w hT hmv ht s hs hq).mono ?_
      rintro e w' ⟨rfl, h1⟩
      refine ⟨rfl, ?_⟩
      have := h1.lists
      rw [show listsOf (vs ++ [t.without s]) = listsOf vs ++ [dropL s t.list] by simp [listsOf, without_list _ _ hr]] at this
      exact this
  · rw [if_neg hs, if_neg (by decide)]
    refine (drop_bad hT ht s (.inl hs)).mono ?_
    rintro e w' ⟨(⟨rfl, h1⟩ | ⟨rfl, h1⟩), hb⟩
    · exact ⟨rfl, (hT.still hb).lists⟩
    · exact absurd h1 hs
theorem getL_any {L : Lists} (h : TblL w B g A L) (s : ByteArray) :
    Calls Try.prog 26 #[.pointer (some ⟨g, 0, none⟩), .string s] w fun e w' => e = .returned (.tuple #[.agg (encKy (getQ (present L) s).1).toArray, .int .i64 ((getQ (present L) s).2 : Nat)]) ∧ Below w.heap.size w w' := by
  obtain ⟨c, vs, ps, t, rfl, hT, ht, hp, hr, hc, h64⟩ := h.last
  rw [hp]
  refine (get_any w hT ht s).mono ?_
  rintro e w' ⟨(⟨hs, rfl⟩ | ⟨hs, rfl⟩), hb⟩
  · exact ⟨by rw [getT_Q hr hs], hb⟩
  · refine ⟨?_, hb⟩
    unfold getQ
    rw [if_neg hs]
    rfl
theorem lenL_any {L : Lists} (h : TblL w B g A L) :
    Calls Try.prog 24 #[.pointer (some ⟨g, 0, none⟩)] w fun e w' => e = .returned (.int .i64 ((present L).length : Nat)) ∧ Below w.heap.size w w' := by
  obtain ⟨c, vs, ps, t, rfl, hT, ht, hp, hr, hc, h64⟩ := h.last
  rw [hp, hc]
  refine (len_any w hT ht).mono ?_
  rintro e w' ⟨rfl, m, rfl⟩
  exact ⟨rfl, below_drewN (Below.refl _ _) m⟩
theorem allL_any {L : Lists} (h : TblL w B g A L) :
    Calls Try.prog 17 #[.pointer (some ⟨g, 0, none⟩)] w fun e w' => (∃ A' c', e = .returned (.slice A' (present L).length c') ∧ Own w' w.heap.size 61 33 A' (present L).length c' (rowsR (present L))) ∧ Below w.heap.size w w' := by
  obtain ⟨c, vs, ps, t, rfl, hT, ht, hp, hr, hc, h64⟩ := h.last
  rw [hp, hc]
  exact all_any w hT ht
theorem versionL_any {L : Lists} (h : TblL w B g A L) :
    Calls Try.prog 18 #[.pointer (some ⟨g, 0, none⟩)] w fun e w' => e = .returned (.int .u64 (L.length - 1 : Nat)) ∧ Below w.heap.size w w' := by
  obtain ⟨c, vs, ps, rfl, hT⟩ := h
  refine (version_any w hT).mono ?_
  rintro e w' ⟨rfl, m, rfl⟩
  exact ⟨by simp [listsOf], below_drewN (Below.refl _ _) m⟩
theorem atL_any {L : Lists} (h : TblL w B g A L) (v : Nat) :
    Calls Try.prog 19 #[.pointer (some ⟨g, 0, none⟩), .int .u64 (v : Int)] w fun e w' => ((∃ l A' c', L[v]? = some l ∧ e = .returned (.tuple #[.slice A' l.length c', .int .i64 0]) ∧ Own w' w.heap.size 61 33 A' l.length c' (rowsR l)) ∨ (L.length ≤ v ∧ e = .returned (.tuple #[.slice none 0 0, .int .i64 133]))) ∧ Below w.heap.size w w' := by
  obtain ⟨c, vs, ps, rfl, hT⟩ := h
  refine (atv_any w hT v).mono ?_
  rintro e w' ⟨(⟨t, A', c', ht, rfl, ho⟩ | ⟨hv, rfl⟩), hb⟩
  · refine ⟨.inl ⟨t.list, A', c', ?_, ?_, ?_⟩, hb⟩
    · simp [listsOf, ht]
    · rw [Tr.cnt_list]
    · rw [Tr.cnt_list]; exact ho
  · exact ⟨.inr ⟨by simpa [listsOf] using hv, rfl⟩, hb⟩
end
end Go.Proofs.Ytakcnkmlglkkpaa
