/- Pins: Has, Pin, Next, Open, Close, Enter, Leave, Count. (Printed by tools/genpn.py.) -/
import Derived.Test.YtgjokkjmljdmbaaPnR
namespace Go.Proofs.Ytgjokkjmljdmbaa
open Go.RowKit Go.Maps
set_option linter.unusedSimpArgs false
set_option linter.unusedVariables false

/-- What a call behind a boxed key may look at. -/
structure PkS (w1 : World) (g : Nat) (kv : Array Value) (σ : Ses) (W : World) : Prop where
  bel : Below w1.heap.size w1 W
  key : W.heap[g]? = some (.cells kv 29 (0, 0))
  ses : SesAt W σ
section
variable {w1 W W' : World} {g : Nat} {kv : Array Value} {σ : Ses}
theorem PkS.cel (h : PkS w1 g kv σ W) : W.cell? ⟨σ.sb, 0, none⟩ = some (.pointer (some ⟨σ.kb, 0, none⟩)) := by
  unfold World.cell?
  simp [h.ses.1]
theorem PkS.below (h : PkS w1 g kv σ W) (hb : Below W.heap.size W W') : PkS w1 g kv σ W' := by
  obtain ⟨l1, l2, l3⟩ := h.ses.lts
  exact ⟨h.bel.trans (hb.mono h.bel.size), (hb.block _ (Array.getElem?_eq_some_iff.1 h.key).1).trans h.key, h.ses.keep (hb.block _ l1) (hb.block _ l2) (hb.block _ l3)⟩
theorem PkS.drew (h : PkS w1 g kv σ W) : PkS w1 g kv σ W.drew := ⟨below_drewN h.bel 1, h.key, h.ses⟩
end
set_option maxRecDepth 100000 in
set_option maxHeartbeats 1000000 in
theorem pHas_any (w : World) (p : Nat) (L : List (Option Ses)) (h : PinsAt w p L) (s : Int) (x : List Nat) (hx : IsK x) :
    Calls Try.prog 10 #[.pointer (some ⟨p, 0, none⟩), .int .i64 s, .agg (u8s x).toArray] w fun e w' => e = .returned (.bool ((atS L s).any fun σ => decide (x ∈ σ.ks))) ∧ Below w.heap.size w w' := by
  obtain ⟨g, hg⟩ : ∃ g, w.heap.size = g := ⟨_, rfl⟩
  obtain ⟨w1, hw1⟩ : ∃ w1, w.alloc (.cells (u8s x).toArray 29) = w1 := ⟨_, rfl⟩
  have hB : Hid (Below w.heap.size w w1) := Lib.hid (by rw [← hw1]; exact (Below.refl _ _).alloc (Nat.le_refl _) _)
  have h1 : PinsAt w1 p L := h.below hB.out (Nat.le_refl _)
  have ho := Lib.hid (pOpen_any w1 p L h1 s)
  have hi32 : Hid ((Try.prog.info? 29).map (·.size) = some 32) := Lib.hid (by kernel_rfl)
  have hs32 : Hid ((u8s x).toArray.size = 32) := Lib.hid (by simp [u8s, hx.1])
  have hk1 : Hid (w1.heap[g]? = some (.cells (u8s x).toArray 29 (0, 0))) := Lib.hid (by rw [← hw1, ← hg]; exact heap_alloc_new w _)
  have hbel : ∀ {W : World}, Below w1.heap.size w1 W → Below w.heap.size w W := fun h => hB.out.trans (h.mono hB.out.size)
  have hses : Hid (∀ σ, atS L s = some σ → SesAt w1 σ) := Lib.hid fun σ hσ => by
    obtain ⟨k, _, _, hk⟩ := h1.atS_some hσ
    exact h1.ses k σ hk
  have hHs : Hid (∀ kb mb n ks W, SetK W kb mb n ks → Calls Try.prog 22 #[.pointer (some ⟨kb, 0, none⟩), .agg (u8s x).toArray] W fun e w' => e = .returned (.bool (decide (x ∈ ks))) ∧ Below W.heap.size W w') := Lib.hid fun kb mb n ks W hW => hasK_any W kb mb n ks hW x hx
  generalize atS L s = y at ho hses ⊢
  clear h h1
  cases y with
  | none =>
    simp only [sptr, Option.any_none] at ho ⊢
    clear hses hHs
    go_enter Try.func10, Try.ntmps10
    go_wp2_with (go_at_call 20; (first | rw [hw1] | skip); refine ho.out.mono ?_; rintro e w5 ⟨rfl, h5⟩; have h6 := h5.symm; clear h5; subst h6; clear ho)
    go_quiet (fail)
    go_wp2_with fail
    go_ret
    exact ⟨rfl, below_drewN hB.out _⟩
  | some σ =>
    have hd0 : Hid (PkS w1 g (u8s x).toArray σ w1) := Lib.hid ⟨Below.refl _ _, hk1.out, hses.out σ rfl⟩
    obtain ⟨B, hBB⟩ : ∃ B, decide (x ∈ σ.ks) = B := ⟨_, rfl⟩
    simp only [sptr, Option.any_some] at ho ⊢
    rw [hBB]
    obtain ⟨kv, hkv⟩ : ∃ kv, (u8s x).toArray = kv := ⟨_, rfl⟩
    rw [hkv] at hk1 hs32 hw1 hHs hd0 ⊢
    have hH : Hid (∀ W, PkS w1 g kv σ W → Calls Try.prog 22 #[.pointer (some ⟨σ.kb, 0, none⟩), .agg kv] W fun e w' => e = .returned (.bool B) ∧ Below W.heap.size W w') := Lib.hid fun W hW => by
      rw [← hBB]
      exact hHs.out _ _ _ _ W hW.ses.2
    clear hses hHs hBB hkv
    go_enter Try.func10, Try.ntmps10
    go_wp2_with (go_at_call 20; (first | rw [hw1] | skip); refine ho.out.mono ?_; rintro e w5 ⟨rfl, h5⟩; have h6 := h5.symm; clear h5; subst h6; clear ho)
    have hd : Hid (PkS w1 g kv σ w1.drew) := Lib.hid hd0.out.drew
    refine wp_region_held (S := PkS w1 g kv σ) (by kernel_rfl) ?_
    change wpAnyH _ _ _ _ _ _ _ _ (World.drew _)
    refine tk (i := 0) (d := 11) (v := (.pointer (some ⟨σ.sb, 0, none⟩))) rfl rfl (Or.inl ⟨by rfl, by intro W hW; clear hW; go_simp⟩) hd.out ?_
    simp only [List.setIfInBounds_toArray, List.set_cons_zero, List.set_cons_succ]
    refine tk (i := 1) (d := 12) (v := (.bool true)) rfl rfl (Or.inl ⟨by rfl, by intro W hW; clear hW; go_simp⟩) hd.out ?_
    simp only [List.setIfInBounds_toArray, List.set_cons_zero, List.set_cons_succ]
    refine tk (i := 2) (d := 13) (v := (.bool true)) rfl rfl (Or.inl ⟨by rfl, by intro W hW; clear hW; go_simp⟩) hd.out ?_
    simp only [List.setIfInBounds_toArray, List.set_cons_zero, List.set_cons_succ]
    refine tk (i := 3) (d := 14) (v := (.pointer (some ⟨σ.sb, 0, none⟩))) rfl rfl (Or.inl ⟨by rfl, by intro W hW; clear hW; go_simp⟩) hd.out ?_
    simp only [List.setIfInBounds_toArray, List.set_cons_zero, List.set_cons_succ]
    refine tk (i := 4) (d := 15) (v := (.pointer (some ⟨σ.sb, 0, none⟩))) rfl rfl (Or.inl ⟨by rfl, by intro W hW; clear hW; go_simp⟩) hd.out ?_
    simp only [List.setIfInBounds_toArray, List.set_cons_zero, List.set_cons_succ]
    refine tk (i := 5) (d := 16) (v := (.pointer (some ⟨σ.sb, 0, none⟩))) rfl rfl (Or.inl ⟨by rfl, by intro W hW; clear hW; go_simp⟩) hd.out ?_
    simp only [List.setIfInBounds_toArray, List.set_cons_zero, List.set_cons_succ]
    refine tk (i := 6) (d := 17) (v := (.pointer (some ⟨σ.kb, 0, none⟩))) rfl rfl (Or.inl ⟨by rfl, by intro W hW; have c := hW.cel; clear hW; go_simp⟩) hd.out ?_
    simp only [List.setIfInBounds_toArray, List.set_cons_zero, List.set_cons_succ]
    refine tk (i := 7) (d := 18) (v := (.agg kv)) rfl rfl (yieldsIf_load_row (by rfl) 29 _ rfl g rfl 29 kv (0, 0) _ (fun W hW => hW.key) Try.underlying29 rfl (by rw [hs32.out]; exact hi32.out)) hd.out ?_
    simp only [List.setIfInBounds_toArray, List.set_cons_zero, List.set_cons_succ]
    refine wpAnyH_ready (rs := [8]) (by kernel_rfl) (by simp) ?_
    refine AllReadyH.cons rfl (fun K hK => ?_) AllReadyH.nil
    go_simp
    go_wp2_with (go_at_call 22; refine (hH.out _ hd.out).mono ?_; rintro e v1 ⟨rfl, b1⟩; have b1' := Lib.hid b1; clear b1)
    have hd1 := Lib.hid (hd.out.below b1'.out)
    refine hK.out _ _ hd1.out (fun _ => ?_)
    clear hK K
    refine tk (i := 9) (d := 20) (v := (.bool B)) rfl rfl (Or.inl ⟨by rfl, by intro W hW; clear hW; go_simp⟩) hd1.out ?_
    simp only [List.setIfInBounds_toArray, List.set_cons_zero, List.set_cons_succ]
    refine tk (i := 10) (d := 6) (v := (.bool B)) rfl rfl (Or.inl ⟨by rfl, by intro W hW; clear hW; go_simp⟩) hd1.out ?_
    simp only [List.setIfInBounds_toArray, List.set_cons_zero, List.set_cons_succ]
    refine wpAnyH_done (by kernel_rfl) ?_ _
    have hb := Lib.hid hd1.out.bel
    go_wp2_with fail
    go_ret
    exact ⟨rfl, hbel hb.out⟩
end Go.Proofs.Ytgjokkjmljdmbaa
