/- Pins: Pin. (Printed by tools/genpn2.py.) -/
import Derived.Test.YtgjokkjmljdmbaaPnW
namespace Go.Proofs.Ytgjokkjmljdmbaa
open Go.RowKit Go.Maps
set_option linter.unusedSimpArgs false
set_option linter.unusedVariables false

/-- What stands while the key is laid in. -/
structure PkN (g : Nat) (kv : Array Value) (σ : Ses) (W : World) : Prop where
  key : W.heap[g]? = some (.cells kv 29 (0, 0))
  sb : W.heap[σ.sb]? = some (.cells #[.pointer (some ⟨σ.kb, 0, none⟩), .int .i64 (σ.busy : Int)] 57 (0, 0))
section
variable {W W' : World} {g : Nat} {kv : Array Value} {σ : Ses}
theorem PkN.cel (h : PkN g kv σ W) : W.cell? ⟨σ.sb, 0, none⟩ = some (.pointer (some ⟨σ.kb, 0, none⟩)) := by
  unfold World.cell?
  simp [h.sb]
theorem PkN.grown {m : Nat} (h : PkN g kv σ W) (hg : W.grownBy W' (some m)) (h1 : g ≠ m) (h2 : σ.sb ≠ m) : PkN g kv σ W' :=
  ⟨(hg.block _ (Array.getElem?_eq_some_iff.1 h.key).1 (by simpa using h1)).trans h.key, (hg.block _ (Array.getElem?_eq_some_iff.1 h.sb).1 (by simpa using h2)).trans h.sb⟩
end
/-- The sessions behind a Pin. -/
def pinS (x : List Nat) (σ : Ses) : Ses := { σ with n := σ.n + 1, ks := insK x σ.ks }
def pinL (L : List (Option Ses)) (s : Int) (x : List Nat) : List (Option Ses) :=
  match atS L s with
  | none => L
  | some σ => L.set s.toNat (some (pinS x σ))
def PinP (w : World) (p : Nat) (L : List (Option Ses)) (s : Int) (x : List Nat) (e : Ending) (w' : World) : Prop :=
  e = .returned (.int .i64 (errS (atS L s))) ∧ PinsAt w' p (pinL L s x) ∧ Upd (Wr p L) w w'
set_option maxRecDepth 100000 in
set_option maxHeartbeats 1000000 in
theorem pPin_any (w : World) (p : Nat) (L : List (Option Ses)) (h : PinsAt w p L) (s : Int) (x : List Nat) (hx : IsK x) (hn : ∀ σ, atS L s = some σ → σ.n < 140737488355328) :
    Calls Try.prog 7 #[.pointer (some ⟨p, 0, none⟩), .int .i64 s, .agg (u8s x).toArray] w (PinP w p L s x) := by
  obtain ⟨g, hg⟩ : ∃ g, w.heap.size = g := ⟨_, rfl⟩
  obtain ⟨w1, hw1⟩ : ∃ w1, w.alloc (.cells (u8s x).toArray 29) = w1 := ⟨_, rfl⟩
  have hB : Hid (Below w.heap.size w w1) := Lib.hid (by rw [← hw1]; exact (Below.refl _ _).alloc (Nat.le_refl _) _)
  have h1 : PinsAt w1 p L := h.below hB.out (Nat.le_refl _)
  have ho := Lib.hid (pFound_any w1 p L h1 s)
  have hi32 : Hid ((Try.prog.info? 29).map (·.size) = some 32) := Lib.hid (by kernel_rfl)
  have hs32 : Hid ((u8s x).toArray.size = 32) := Lib.hid (by simp [u8s, hx.1])
  have hk1 : Hid (w1.heap[g]? = some (.cells (u8s x).toArray 29 (0, 0))) := Lib.hid (by rw [← hw1, ← hg]; exact heap_alloc_new w _)
  have hfin0 : Hid (∀ σ, atS L s = some σ → ∀ v, AddK w1.drew σ.kb σ.mb σ.n σ.ks x (.returned (.bool (!decide (x ∈ σ.ks)))) v → PinP w p L s x (.returned (.int .i64 0)) v) := Lib.hid fun σ hσ v hv => by
    obtain ⟨k, rfl, hk16, hk⟩ := h.atS_some hσ
    obtain ⟨_, hset, hgr⟩ := hv
    have hu : Upd (Wr p L) w1 v := (Upd.of_grown (w := w1) ⟨hgr.os, hgr.tape, hgr.output, hgr.size, hgr.block⟩ (.inr ⟨k, σ, hk, .inr rfl⟩))
    have hl := (h1.ses k σ hk).lts
    refine ⟨by rw [hσ]; rfl, ?_, (Upd.of_below hB.out).trans hu⟩
    unfold pinL
    rw [hσ]
    show PinsAt v p (L.set ((k : Int)).toNat _)
    rw [Int.toNat_natCast]
    have hbl : ∀ j, j < w1.heap.size → j ≠ σ.mb → v.heap[j]? = w1.heap[j]? := fun j hj hne => hgr.block j hj (by simpa using hne)
    exact h1.turn hk rfl rfl rfl ⟨(hbl _ hl.1 (h1.ses k σ hk).unlike.2.1).trans (h1.ses k σ hk).1, hset⟩ (fun j hj _ hne => hbl j hj hne)
  have hnone : Hid (atS L s = none → ∀ v, v = w1 → PinP w p L s x (.returned (.int .i64 140)) v) := Lib.hid fun hσ v hv => by
    subst hv
    refine ⟨by rw [hσ]; rfl, ?_, Upd.of_below hB.out⟩
    unfold pinL
    rw [hσ]
    exact h1
  have hses : Hid (∀ σ, atS L s = some σ → SesAt w1 σ ∧ σ.n < 140737488355328) := Lib.hid fun σ hσ => by
    obtain ⟨k, _, _, hk⟩ := h1.atS_some hσ
    exact ⟨h1.ses k σ hk, hn σ hσ⟩
  have hgp : Hid (∀ σ, atS L s = some σ → g ≠ σ.mb) := Lib.hid fun σ hσ => by
    obtain ⟨k, _, _, hk⟩ := h.atS_some hσ
    have := (h.ses k σ hk).lts.2.2
    omega
  obtain ⟨Q, hQ⟩ : ∃ Q, PinP w p L s x = Q := ⟨_, rfl⟩
  rw [hQ] at hfin0 hnone ⊢
  clear hQ
  generalize atS L s = y at ho hses hfin0 hnone hgp ⊢
  clear h h1 hn
  cases y with
  | none =>
    simp only [sptr, errS] at ho ⊢
    clear hses hfin0 hgp
    go_enter Try.func7, Try.ntmps7
    go_wp2_with (go_at_call 18; (first | rw [hw1] | skip); refine ho.out.mono ?_; rintro e w5 ⟨rfl, h5⟩; have h6 := h5.symm; clear h5; subst h6; clear ho)
    exact hnone.out (by trivial) _ rfl
  | some σ =>
    obtain ⟨hS1, hn1⟩ := hses.out σ rfl
    have hS1' := Lib.hid hS1
    have hgm := Lib.hid (hgp.out σ rfl)
    have hsm := Lib.hid hS1.unlike.2.1
    have hA := Lib.hid (addK_any w1.drew σ.kb σ.mb σ.n σ.ks hS1.2 hn1 x hx)
    have hfin := Lib.hid (fun v a => hfin0.out σ rfl v a)
    simp only [sptr, errS] at ho ⊢
    have hkx : Hid (∀ e v, AddK w1.drew σ.kb σ.mb σ.n σ.ks x e v → e = .returned (.bool (!decide (x ∈ σ.ks))) ∧ AddK w1.drew σ.kb σ.mb σ.n σ.ks x (.returned (.bool (!decide (x ∈ σ.ks)))) v) := Lib.hid fun e v a => ⟨a.1, rfl, a.2⟩
    have hA : Hid (Calls Try.prog 19 #[.pointer (some ⟨σ.kb, 0, none⟩), .agg (u8s x).toArray] w1.drew fun e v => e = .returned (.bool (!decide (x ∈ σ.ks))) ∧ SetK v σ.kb σ.mb (σ.n + 1) (insK x σ.ks) ∧ w1.drew.grownBy v (some σ.mb)) := Lib.hid hA.out
    have hfin : Hid (∀ v, SetK v σ.kb σ.mb (σ.n + 1) (insK x σ.ks) ∧ w1.drew.grownBy v (some σ.mb) → Q (.returned (.int .i64 0)) v) := Lib.hid fun v a => hfin.out v ⟨rfl, a⟩
    obtain ⟨kv, hkv⟩ : ∃ kv, (u8s x).toArray = kv := ⟨_, rfl⟩
    obtain ⟨B, hBB⟩ : ∃ B, (!decide (x ∈ σ.ks)) = B := ⟨_, rfl⟩
    rw [hkv] at hk1 hs32 hw1 hA ⊢
    rw [hBB] at hA
    clear hses hfin0 hnone hgp hkv hBB hkx hS1 hn1
    go_enter Try.func7, Try.ntmps7
    go_wp2_with (go_at_call 18; (first | rw [hw1] | skip); refine ho.out.mono ?_; rintro e w5 ⟨rfl, h5⟩; have h6 := h5.symm; clear h5; subst h6; clear ho)
    have hd : Hid (PkN g kv σ w1.drew) := Lib.hid ⟨hk1.out, hS1'.out.1⟩
    refine wp_region_held (S := PkN g kv σ) (by kernel_rfl) ?_
    change wpAnyH _ _ _ _ _ _ _ _ (World.drew _)
    refine tk (i := 0) (d := 18) (v := (.pointer (some ⟨σ.sb, 0, none⟩))) rfl rfl (Or.inl ⟨by rfl, by intro W hW; clear hW; go_simp⟩) hd.out ?_
    simp only [List.setIfInBounds_toArray, List.set_cons_zero, List.set_cons_succ]
    refine tk (i := 1) (d := 19) (v := (.pointer (some ⟨σ.sb, 0, none⟩))) rfl rfl (Or.inl ⟨by rfl, by intro W hW; clear hW; go_simp⟩) hd.out ?_
    simp only [List.setIfInBounds_toArray, List.set_cons_zero, List.set_cons_succ]
    refine tk (i := 2) (d := 20) (v := (.pointer (some ⟨σ.sb, 0, none⟩))) rfl rfl (Or.inl ⟨by rfl, by intro W hW; clear hW; go_simp⟩) hd.out ?_
    simp only [List.setIfInBounds_toArray, List.set_cons_zero, List.set_cons_succ]
    refine tk (i := 3) (d := 21) (v := (.pointer (some ⟨σ.kb, 0, none⟩))) rfl rfl (Or.inl ⟨by rfl, by intro W hW; have c := hW.cel; clear hW; go_simp⟩) hd.out ?_
    simp only [List.setIfInBounds_toArray, List.set_cons_zero, List.set_cons_succ]
    refine tk (i := 4) (d := 22) (v := (.agg kv)) rfl rfl (yieldsIf_load_row (by rfl) 29 _ rfl g rfl 29 kv (0, 0) _ (fun W hW => hW.key) Try.underlying29 rfl (by rw [hs32.out]; exact hi32.out)) hd.out ?_
    simp only [List.setIfInBounds_toArray, List.set_cons_zero, List.set_cons_succ]
    refine wpAnyH_ready (rs := [5]) (by kernel_rfl) (by simp) ?_
    refine AllReadyH.cons rfl (fun K hK => ?_) AllReadyH.nil
    go_simp
    go_wp2_with (go_at_call 19; refine hA.out.mono ?_; rintro e v1 ⟨rfl, a1⟩; have a1' := Lib.hid a1; clear a1)
    have hd1 : Hid (PkN g kv σ v1) := Lib.hid (hd.out.grown a1'.out.2 hgm.out hsm.out)
    refine hK.out _ _ hd1.out (fun _ => ?_)
    clear hK K
    refine wpAnyH_done (by kernel_rfl) ?_ _
    have hF := Lib.hid (hfin.out _ a1'.out)
    go_wp2_with fail
    exact hF.out
end Go.Proofs.Ytgjokkjmljdmbaa
