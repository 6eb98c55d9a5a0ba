/- Add to a set of keys. (Printed by tools/genaddset.py.) -/
import Derived.Test.YtgjokkjmljdmbaaKxN
import Derived.Test.YtgjokkjmljdmbaaKyL
namespace Go.Proofs.Ytgjokkjmljdmbaa
open Go.RowKit Go.Maps
set_option linter.unusedSimpArgs false
set_option linter.unusedVariables false

/-- What the set reads as behind Add. -/
def addD (D : DataW Unit) (l : Lit) : DataW Unit := if Maps.has D l then D else D.put l (.agg [])
def AddP (w : World) (s m n : Nat) (D : DataW Unit) (l : Lit) (e : Ending) (w' : World) : Prop :=
  e = .returned (.bool (!Maps.has D l)) ∧ SetAt w' s m (n + 1) (addD D l) ∧ w.grownBy w' (some m)
theorem SetAt.ne {w : World} {s m n : Nat} {D : DataW Unit} (h : SetAt w s m n D) : s ≠ m := by
  obtain ⟨h1, es, clock, h2, _⟩ := h
  intro e
  rw [e, h2] at h1
  cases h1
theorem grown_of_below {w w' : World} (h : Below w.heap.size w w') (row : Option Nat) : w.grownBy w' row :=
  ⟨h.os, h.tape, h.output, h.size, fun i hi _ => h.block i hi⟩
set_option maxRecDepth 100000 in
set_option maxHeartbeats 2000000 in
theorem setAdd_any (w : World) (s m n : Nat) (D : DataW Unit) (h : SetAt w s m n D) (hn : n < 140737488355328) (x : List Nat) (hx : x.length = 32) (l : Lit) (hkey : keyOf Try.prog 29 (.agg (u8s x).toArray) = some l) :
    Calls Try.prog 19 #[.pointer (some ⟨s, 0, none⟩), .agg (u8s x).toArray] w (AddP w s m n D l) := by
  obtain ⟨g, hg⟩ : ∃ g, w.heap.size = g := ⟨_, rfl⟩
  obtain ⟨w1, hw1⟩ : ∃ w1, w.alloc (.cells (u8s x).toArray 29) = w1 := ⟨_, rfl⟩
  have hB : Hid (Below w.heap.size w w1) := Lib.hid (by rw [← hw1]; exact (Below.refl _ _).alloc (Nat.le_refl _) _)
  have h1 : SetAt w1 s m n D := h.below hB.out (Nat.le_refl _)
  have hT := Lib.hid (there_any w1 s m n D h1)
  have hH := Lib.hid (setHas_any w1 s m n D h1 x hx l hkey)
  have hi32 : Hid ((Try.prog.info? 29).map (·.size) = some 32) := Lib.hid (by kernel_rfl)
  have hs32 : Hid ((u8s x).toArray.size = 32) := Lib.hid (by simp [u8s, hx])
  have hk1 : Hid (w1.heap[g]? = some (.cells (u8s x).toArray 29 (0, 0))) := Lib.hid (by rw [← hw1, ← hg]; exact heap_alloc_new w _)
  have hgm : Hid (g ≠ m) := Lib.hid (by have := h.2.lt; omega)
  have hsm : Hid (s ≠ m) := Lib.hid h.ne
  have hz := zeroU
  obtain ⟨kv, hkv⟩ : ∃ kv, (u8s x).toArray = kv := ⟨_, rfl⟩
  rw [hkv] at hkey hk1 hs32 hw1 hH ⊢
  have hkey' := Lib.hid hkey
  have h1' := Lib.hid h1
  obtain ⟨B, hB0⟩ : ∃ B, Maps.has D l = B := ⟨_, rfl⟩
  rw [hB0] at hH
  have hB0' := Lib.hid hB0
  clear hkey h1 hB0 hkv hx h
  cases B
  · skip
    go_enter Try.func19, Try.ntmps19
    go_wp2_with (first
      | (go_at_call 35; refine hT.out.mono ?_; rintro e w5 ⟨rfl, h5⟩; have h6 := h5.symm; clear h5; subst h6; clear hT)
      | (refine wpList_load_row_g (by rfl) 29 _ rfl g rfl 29 kv (0, 0) _ hk1.out Try.underlying29 rfl (by rw [hs32.out]; exact hi32.out) ?_)
      | (go_at_call 22; refine hH.out.mono ?_; rintro e w5 ⟨rfl, b5⟩; have b5' := Lib.hid b5; clear b5 hH))
    have hW4 : Hid (Below w.heap.size w w5.drew) := Lib.hid (hB.out.trans ((below_drewN b5'.out 1).mono hB.out.size))
    have hS5 := Lib.hid (h1'.out.below b5'.out (Nat.le_refl _))
    have hk5 := Lib.hid ((b5'.out.block _ (Array.getElem?_eq_some_iff.1 hk1.out).1).trans hk1.out)
    have hd : Hid (NewS g s m kv w5.drew) := Lib.hid ⟨hk5.out, hS5.out.1⟩
    have upd := Lib.hid (World.ownsMap.update (w := w5.drew) (val := .agg #[]) hS5.out.2 lawK mapK (by unfold maxLen; omega) hkey'.out (unitElem_mk (H := Unit)))
    have hfin : Hid (∀ w6, w6.ownsMap Try.prog 29 (unitElem (H := Unit)) m (n + 1) (D.put l (.agg [])) → w5.drew.grownBy w6 (some m) → NewS g s m kv w6 → AddP w s m n D l (.returned (.bool true)) w6) := Lib.hid (fun w6 a b c => by
      unfold AddP addD
      rw [hB0'.out]
      exact ⟨rfl, ⟨c.2, a⟩, (grown_of_below hW4.out (some m)).trans b⟩)
    refine wp_region_held (S := NewS g s m kv) (by kernel_rfl) ?_
    change wpAnyH _ _ _ _ _ _ _ _ (World.drew _)
    refine tk (i := 0) (d := 13) (v := (.pointer (some ⟨s, 0, none⟩))) rfl rfl (Or.inl ⟨by rfl, by intro W hW; clear hW; go_simp⟩) hd.out ?_
    simp only [List.setIfInBounds_toArray, List.set_cons_zero, List.set_cons_succ]
    refine tk (i := 1) (d := 14) (v := (.pointer (some ⟨s, 0, none⟩))) rfl rfl (Or.inl ⟨by rfl, by intro W hW; clear hW; go_simp⟩) hd.out ?_
    simp only [List.setIfInBounds_toArray, List.set_cons_zero, List.set_cons_succ]
    refine tk (i := 2) (d := 15) (v := (.pointer (some ⟨s, 0, none⟩))) rfl rfl (Or.inl ⟨by rfl, by intro W hW; clear hW; go_simp⟩) hd.out ?_
    simp only [List.setIfInBounds_toArray, List.set_cons_zero, List.set_cons_succ]
    refine tk (i := 3) (d := 16) (v := (.map (some m))) rfl rfl (Or.inl ⟨by rfl, by intro W hW; have c := hW.cel; clear hW; go_simp⟩) hd.out ?_
    simp only [List.setIfInBounds_toArray, List.set_cons_zero, List.set_cons_succ]
    refine tk (i := 4) (d := 17) (v := (.agg kv)) rfl rfl (yieldsIf_load_row (by rfl) 29 _ rfl g rfl 29 kv (0, 0) _ (fun W hW => hW.key) Try.underlying29 rfl (by rw [hs32.out]; exact hi32.out)) hd.out ?_
    simp only [List.setIfInBounds_toArray, List.set_cons_zero, List.set_cons_succ]
    refine tk (i := 5) (d := 18) (v := (.agg #[])) rfl rfl (Or.inl ⟨by rfl, by intro W hW; clear hW; go_simp⟩) hd.out ?_
    simp only [List.setIfInBounds_toArray, List.set_cons_zero, List.set_cons_succ]
    refine wpAnyH_ready (rs := [6]) (by kernel_rfl) (by simp) ?_
    refine AllReadyH.cons rfl (fun K hK => ?_) AllReadyH.nil
    obtain ⟨w6, hrun, hown6, hgr6⟩ := upd.out
    go_simp
    clear hrun
    have hd1 := Lib.hid (hd.out.grown hgr6 hsm.out hgm.out)
    refine hK.out _ _ hd1.out (fun _ => ?_)
    clear hK K
    refine wpAnyH_done (by kernel_rfl) ?_ _
    have hF6 := Lib.hid (hfin.out _ hown6 hgr6 hd1.out)
    clear hown6 hgr6
    go_wp2_with fail
    go_ret
    exact hF6.out
  · skip
    go_enter Try.func19, Try.ntmps19
    go_wp2_with (first
      | (go_at_call 35; refine hT.out.mono ?_; rintro e w5 ⟨rfl, h5⟩; have h6 := h5.symm; clear h5; subst h6; clear hT)
      | (refine wpList_load_row_g (by rfl) 29 _ rfl g rfl 29 kv (0, 0) _ hk1.out Try.underlying29 rfl (by rw [hs32.out]; exact hi32.out) ?_)
      | (go_at_call 22; refine hH.out.mono ?_; rintro e w5 ⟨rfl, b5⟩; have b5' := Lib.hid b5; clear b5 hH))
    go_ret
    unfold AddP addD
    rw [hB0'.out]
    exact ⟨rfl, ⟨(h1'.out.below b5'.out (Nat.le_refl _)).1, (h1'.out.below b5'.out (Nat.le_refl _)).2.mono (Nat.le_succ _)⟩, grown_of_below (hB.out.trans (b5'.out.mono hB.out.size)) _⟩
end Go.Proofs.Ytgjokkjmljdmbaa
