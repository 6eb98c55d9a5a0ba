/- told: the queries of the two. (Printed by tools/genpq5.py.) -/
import Derived.Test.YtgjokkjmljdmbaaPqQ
import Derived.Test.YtgjokkjmljdmbaaPqE
namespace Go.Proofs.Ytgjokkjmljdmbaa
open Go.RowKit Go.Maps
set_option linter.unusedSimpArgs false
set_option linter.unusedVariables false

/-- The program's and the document's, one content, in memory from B on. -/
structure Duo (w : World) (B p : Nat) (L : List (Option Ses)) (q : Nat) (f : Nat → RSes) (N : Nat) : Prop where
  pins : PinsAt w p L
  ref : RefAt w q f
  rel : Rel L f
  lo : ∀ k, Wr p L k ∨ k = q → B ≤ k
  small : ∀ (i : Nat) σ, L[i]? = some (some σ) → σ.n ≤ N ∧ σ.busy ≤ N ∧ σ.ks.length ≤ N
def DuoF (p : Nat) (L : List (Option Ses)) (q k : Nat) : Prop := Wr p L k ∨ k = q
section
variable {w w' : World} {B p q N : Nat} {L : List (Option Ses)} {f : Nat → RSes}
theorem Duo.below (h : Duo w B p L q f N) (hb : Below w.heap.size w w') : Duo w' B p L q f N := ⟨h.pins.below hb (Nat.le_refl _), h.ref.below hb (Nat.le_refl _), h.rel, h.lo, h.small⟩
theorem Duo.rlen (h : Duo w B p L q f N) : ∀ i, i < 16 → (f i).ks.length ≤ N := fun i hi => by
  have hg := h.rel.get hi
  have h1 := h.rel.2 i _ hg
  cases ha : atS L (i : Int) with
  | none => rw [ha] at h1; rw [show f i = ⟨false, 0, [], none, 0⟩ from h1]; simp
  | some σ =>
    rw [ha] at h1 hg
    obtain ⟨_, _, h3⟩ := h1
    rw [h3]
    exact (h.small i σ hg).2.2
end
/-- A step as a value. -/
def stepL (d : Int) (o : Bool) (s : Int) (x : List Nat) (al : Bool) : List Value := [.int .i64 d, .bool o, .int .i64 s] ++ (u8s x ++ [.bool al])
theorem SesL.drs {w w' : World} {B c : Nat} {A : Option Addr} {l : List SE} (h : SesL w B A c l) (hd : DrS w w') : SesL w' B A c l := by
  obtain ⟨m, rfl⟩ := hd
  exact ⟨h.row, h.each, h.rise, h.dis⟩
theorem below_drs {B : Nat} {a w w' : World} (h : Below B a w) (hd : DrS w w') : Below B a w' := by
  obtain ⟨m, rfl⟩ := hd
  exact below_drewN h m
theorem SesL.upd {F : Nat → Prop} {w w' : World} {B c : Nat} {A : Option Addr} {l : List SE} (h : SesL w B A c l) (hu : Upd F w w') (h1 : ∀ k, blockOf A = some k → ¬ F k) (h2 : ∀ (i : Nat) e, l[i]? = some e → ∀ k, blockOf e.A = some k → ¬ F k) : SesL w' B A c l :=
  ⟨own_same1 h.row fun k hk => hu.block k (h.row.lt k hk).2 (h1 k hk), fun i e hi => own_same1 (h.each i e hi) fun k hk => hu.block k ((h.each i e hi).lt k hk).2 (h2 i e hi k hk), h.rise, h.dis⟩
/-- The blocks of a list of sessions: where they lie. -/
theorem SesL.fs {w : World} {B c k : Nat} {A : Option Addr} {l : List SE} (h : SesL w B A c l) (hk : FS l A k) : B ≤ k ∧ k < w.heap.size := by
  rcases hk with hk | ⟨i, hk⟩
  · exact h.row.lt k hk
  · by_cases hi : i < l.length
    · exact (h.each i _ (zAt_get hi)).lt k hk
    · unfold zAt at hk
      rw [List.getElem?_eq_none (by omega)] at hk
      cases hk
theorem SesL.updF {F : Nat → Prop} {w w' : World} {B c : Nat} {A : Option Addr} {l : List SE} (h : SesL w B A c l) (hu : Upd F w w') (hF : ∀ k, FS l A k → ¬ F k) : SesL w' B A c l :=
  h.upd hu (fun k hk => hF k (.inl hk)) (fun i e hi k hk => hF k (.inr ⟨i, by unfold zAt; rw [hi]; exact hk⟩))
theorem SesL.nfs {w : World} {B c : Nat} {A : Option Addr} {l : List SE} {G : Nat → Prop} (h : SesL w B A c l) (hG : ∀ k, B ≤ k → k < w.heap.size → ¬ G k) : (∀ k, blockOf A = some k → ¬ G k) ∧ ∀ (i : Nat) e, l[i]? = some e → ∀ k, blockOf e.A = some k → ¬ G k :=
  ⟨fun k hk => by have := h.row.lt k hk; exact hG k this.1 this.2, fun i e hi k hk => by have := (h.each i e hi).lt k hk; exact hG k this.1 this.2⟩
def SessQ (w : World) (n : Nat) (tl : List (Nat × Nat × List (List Nat))) (e : Ending) (w' : World) : Prop :=
  ∃ A c l, e = .returned (.slice A n c) ∧ SesL w' w.heap.size A c l ∧ l.map seOf = tl ∧ l.length = n ∧ Below w.heap.size w w'
theorem tellS_le (L : List (Option Ses)) : (tellS L 16).length ≤ 16 := by
  unfold tellS
  exact Nat.le_trans (List.length_filterMap_le _ _) (by simp)
theorem sessQ {w w' : World} {L : List (Option Ses)} {e : Ending} (h : SessP w L e w') : SessQ w (tellS L 16).length (tellS L 16) e w' := by
  obtain ⟨A, c, l, rfl, h1, h2, h3⟩ := h
  have hl : l.length = (tellS L 16).length := by rw [← h2, List.length_map]
  exact ⟨A, c, l, by rw [hl], h1, h2, hl, h3⟩
theorem key_newQ (w : World) (D : List Nat) : BlkY ((w.alloc (.cells (u8s (zeros 32)).toArray 29)).setRow w.heap.size (u8s D).toArray) w.heap.size D ∧ Below w.heap.size w ((w.alloc (.cells (u8s (zeros 32)).toArray 29)).setRow w.heap.size (u8s D).toArray) := key_new w D
set_option maxRecDepth 100000 in
set_option maxHeartbeats 4000000 in
theorem told_any (w : World) (B p q N : Nat) (L : List (Option Ses)) (f : Nat → RSes) (h : Duo w B p L q f N) (hN : N ≤ 4398046511104) (d : Int) (o : Bool) (s : Int) (x : List Nat) (hx : IsK x) (al : Bool) :
    Calls Try.prog 31 #[.pointer (some ⟨p, 0, none⟩), .pointer (some ⟨q, 0, none⟩), .agg (stepL d o s x al).toArray] w fun e w' => e = .returned (.bool true) ∧ Below w.heap.size w w' := by
  obtain ⟨g, hg⟩ : ∃ g, w.heap.size = g := ⟨_, rfl⟩
  obtain ⟨w1, hw1⟩ : ∃ w1, w.alloc (.cells (stepL d o s x al).toArray 46) = w1 := ⟨_, rfl⟩
  have hB : Hid (Below w.heap.size w w1) := Lib.hid (by rw [← hw1]; exact (Below.refl _ _).alloc (Nat.le_refl _) _)
  have h1 := Lib.hid (h.below hB.out)
  have hrow : w1.heap[g]? = some (.cells (stepL d o s x al).toArray 46 (0, 0)) := by rw [← hw1, ← hg]; exact heap_alloc_new w _
  have hgl : g < w1.heap.size := (Array.getElem?_eq_some_iff.1 hrow).1
  have hlx : (u8s x).length = 32 := by simp [u8s, hx.1]
  have hcell : ∀ W, Below w1.heap.size w1 W → ∀ j, W.cell? ⟨g, j, none⟩ = (stepL d o s x al)[j]? := fun W hW j => by
    rw [hW.cell (p := ⟨g, j, none⟩) hgl]
    unfold World.cell?
    simp [hrow]
  have hc0 : w1.cell? ⟨g, 0, none⟩ = some (.int .i64 d) := hcell w1 (Below.refl _ _) 0
  have hc2 : Hid (∀ W, Below w1.heap.size w1 W → W.cell? ⟨g, 2, none⟩ = some (.int .i64 s)) := Lib.hid fun W hW => hcell W hW 2
  have hc35 : Hid (∀ W, Below w1.heap.size w1 W → W.cell? ⟨g, 35, none⟩ = some (.bool al)) := Lib.hid fun W hW => by
    rw [hcell W hW 35]
    unfold stepL
    rw [List.getElem?_append_right (by simp), List.getElem?_append_right (by simp [hlx])]
    simp [hlx]
  have hrk : Hid (∀ W, Below w1.heap.size w1 W → W.rangeAt g 3 (u8s x)) := Lib.hid fun W hW j v hv => by
    rw [hcell W hW (3 + j)]
    unfold stepL
    have hj : j < (u8s x).length := (List.getElem?_eq_some_iff.1 hv).1
    rw [List.getElem?_append_right (by simp), List.getElem?_append_left (by simpa using hj)]
    simpa using hv
  have hi32 : Hid ((Try.prog.info? 29).map (·.size) = some 32) := Lib.hid (by kernel_rfl)
  have hx32 := Lib.hid hlx
  have hD : Hid (∀ W, Below w1.heap.size w1 W → Duo W B p L q f N) := Lib.hid fun W hW => h1.out.below hW
  have hlen : Hid (∀ i, i < 16 → (f i).ks.length < 140737488355328) := Lib.hid fun i hi => by have := h.rlen i hi; omega
  have hd : Hid (Below w1.heap.size w1 w1.drew) := Lib.hid (below_drewN (Below.refl _ _) 1)
  have hx' := Lib.hid hx
  have hsm := Lib.hid h.small
  generalize (stepL d o s x al).toArray = ar at hw1 ⊢
  clear h h1 hrow hgl hlx hcell hx
  by_cases h5 : d = 5
  · subst h5
    obtain ⟨V, hV⟩ : ∃ V, (atS L s).isSome = V := ⟨_, rfl⟩
    have hP : Hid (∀ W, Below w1.heap.size w1 W → Calls Try.prog 32 #[.pointer (some ⟨p, 0, none⟩), .int .i64 s] W fun e w' => e = .returned (.bool V) ∧ Below W.heap.size W w') := Lib.hid fun W hW => by
      rw [← hV]
      exact (pIsOpen_any W p L (hD.out W hW).pins s).mono fun e w' ⟨a, b⟩ => ⟨a, b ▸ Below.refl _ _⟩
    have hM : Hid (∀ W, Below w1.heap.size w1 W → Calls Try.prog 37 #[.pointer (some ⟨q, 0, none⟩), .int .i64 s] W fun e w' => e = .returned (.bool V) ∧ Below W.heap.size W w') := Lib.hid fun W hW => by
      rw [← hV]
      exact (rOpened_any W q f L (hD.out W hW).ref (hD.out W hW).rel s).mono fun e w' ⟨a, b⟩ => ⟨a, b ▸ Below.refl _ _⟩
    clear hV
    go_enter Try.func31, Try.ntmps31
    go_wp2_with fail
    refine wp_region_held (S := fun W => Below w1.heap.size w1 W) (by kernel_rfl) ?_
    change wpAnyH _ _ _ _ _ _ _ _ (World.drew _)
    refine tk (i := 0) (d := 19) (v := (.pointer (some ⟨p, 0, none⟩))) rfl rfl (Or.inl ⟨by rfl, by intro W hW; clear hW; go_simp⟩) hd.out ?_
    simp only [List.setIfInBounds_toArray, List.set_cons_zero, List.set_cons_succ]
    refine tk (i := 1) (d := 20) (v := (.pointer (some ⟨g, 2, none⟩))) rfl rfl (Or.inl ⟨by rfl, by intro W hW; clear hW; go_simp⟩) hd.out ?_
    simp only [List.setIfInBounds_toArray, List.set_cons_zero, List.set_cons_succ]
    refine tk (i := 2) (d := 21) (v := (.int .i64 s)) rfl rfl (Or.inl ⟨by rfl, by intro W hW; have cc := hc2.out W hW; clear hW; go_simp⟩) hd.out ?_
    simp only [List.setIfInBounds_toArray, List.set_cons_zero, List.set_cons_succ]
    refine tk (i := 4) (d := 23) (v := (.pointer (some ⟨q, 0, none⟩))) rfl rfl (Or.inl ⟨by rfl, by intro W hW; clear hW; go_simp⟩) hd.out ?_
    simp only [List.setIfInBounds_toArray, List.set_cons_zero, List.set_cons_succ]
    refine tk (i := 5) (d := 24) (v := (.pointer (some ⟨g, 2, none⟩))) rfl rfl (Or.inl ⟨by rfl, by intro W hW; clear hW; go_simp⟩) hd.out ?_
    simp only [List.setIfInBounds_toArray, List.set_cons_zero, List.set_cons_succ]
    refine tk (i := 6) (d := 25) (v := (.int .i64 s)) rfl rfl (Or.inl ⟨by rfl, by intro W hW; have cc := hc2.out W hW; clear hW; go_simp⟩) hd.out ?_
    simp only [List.setIfInBounds_toArray, List.set_cons_zero, List.set_cons_succ]
    refine wpAnyH_ready (rs := [3]) (by kernel_rfl) (by simp) ?_
    refine AllReadyH.cons rfl (fun K hK => ?_) AllReadyH.nil
    go_simp
    go_wp2_with (go_at_call 32; refine (hP.out _ hd.out).mono ?_; rintro e v1 ⟨rfl, b1⟩; have b1' := Lib.hid b1; clear b1)
    have hd1 : Hid (Below w1.heap.size w1 v1) := Lib.hid (hd.out.trans (b1'.out.mono hd.out.size))
    refine hK.out _ _ hd1.out (fun _ => ?_)
    clear hK K
    refine wpAnyH_ready (rs := [7]) (by kernel_rfl) (by simp) ?_
    refine AllReadyH.cons rfl (fun K hK => ?_) AllReadyH.nil
    go_simp
    go_wp2_with (go_at_call 37; refine (hM.out _ hd1.out).mono ?_; rintro e v2 ⟨rfl, b2⟩; have b2' := Lib.hid b2; clear b2)
    have hd2 : Hid (Below w1.heap.size w1 v2) := Lib.hid (hd1.out.trans (b2'.out.mono hd1.out.size))
    refine hK.out _ _ hd2.out (fun _ => ?_)
    clear hK K
    refine tk (i := 8) (d := 27) (v := (.bool true)) rfl rfl (Or.inl ⟨by rfl, by intro W hW; clear hW; go_simp⟩) hd2.out ?_
    simp only [List.setIfInBounds_toArray, List.set_cons_zero, List.set_cons_succ]
    refine tk (i := 9) (d := 6) (v := (.bool true)) rfl rfl (Or.inl ⟨by rfl, by intro W hW; clear hW; go_simp⟩) hd2.out ?_
    simp only [List.setIfInBounds_toArray, List.set_cons_zero, List.set_cons_succ]
    refine wpAnyH_done (by kernel_rfl) ?_ _
    have hdz := hd2
    go_wp2_with fail
    go_ret
    exact ⟨rfl, hB.out.trans (hdz.out.mono hB.out.size)⟩
  by_cases h6 : d = 6
  · subst h6
    obtain ⟨V, hV⟩ : ∃ V, ((atS L s).any fun σ => decide (x ∈ σ.ks)) = V := ⟨_, rfl⟩
    have hP : Hid (∀ W, Below w1.heap.size w1 W → Calls Try.prog 10 #[.pointer (some ⟨p, 0, none⟩), .int .i64 s, .agg (u8s x).toArray] W fun e w' => e = .returned (.bool V) ∧ Below W.heap.size W w') := Lib.hid fun W hW => by
      rw [← hV]
      exact pHas_any W p L (hD.out W hW).pins s x hx'.out
    have hM : Hid (∀ W, Below w1.heap.size w1 W → Calls Try.prog 38 #[.pointer (some ⟨q, 0, none⟩), .int .i64 s, .agg (u8s x).toArray] W fun e w' => e = .returned (.bool V) ∧ Below W.heap.size W w') := Lib.hid fun W hW => by
      rw [← hV]
      exact rHas_any W q f L (hD.out W hW).ref (hD.out W hW).rel hlen.out s x hx'.out
    clear hV h5
    go_enter Try.func31, Try.ntmps31
    go_wp2_with fail
    refine wp_region_held (S := fun W => Below w1.heap.size w1 W) (by kernel_rfl) ?_
    change wpAnyH _ _ _ _ _ _ _ _ (World.drew _)
    refine tk (i := 0) (d := 30) (v := (.pointer (some ⟨p, 0, none⟩))) rfl rfl (Or.inl ⟨by rfl, by intro W hW; clear hW; go_simp⟩) hd.out ?_
    simp only [List.setIfInBounds_toArray, List.set_cons_zero, List.set_cons_succ]
    refine tk (i := 1) (d := 31) (v := (.pointer (some ⟨g, 2, none⟩))) rfl rfl (Or.inl ⟨by rfl, by intro W hW; clear hW; go_simp⟩) hd.out ?_
    simp only [List.setIfInBounds_toArray, List.set_cons_zero, List.set_cons_succ]
    refine tk (i := 2) (d := 32) (v := (.int .i64 s)) rfl rfl (Or.inl ⟨by rfl, by intro W hW; have cc := hc2.out W hW; clear hW; go_simp⟩) hd.out ?_
    simp only [List.setIfInBounds_toArray, List.set_cons_zero, List.set_cons_succ]
    refine tk (i := 3) (d := 33) (v := (.pointer (some ⟨g, 3, none⟩))) rfl rfl (Or.inl ⟨by rfl, by intro W hW; clear hW; go_simp⟩) hd.out ?_
    simp only [List.setIfInBounds_toArray, List.set_cons_zero, List.set_cons_succ]
    refine tk (i := 4) (d := 34) (v := (.agg (u8s x).toArray)) rfl rfl (yieldsIf_load_mid (by rfl) 29 _ rfl g 3 rfl (u8s x) _ (fun W hW => hrk.out W hW) Try.underlying29 rfl (by rw [hx32.out]; exact hi32.out)) hd.out ?_
    simp only [List.setIfInBounds_toArray, List.set_cons_zero, List.set_cons_succ]
    refine tk (i := 6) (d := 36) (v := (.pointer (some ⟨q, 0, none⟩))) rfl rfl (Or.inl ⟨by rfl, by intro W hW; clear hW; go_simp⟩) hd.out ?_
    simp only [List.setIfInBounds_toArray, List.set_cons_zero, List.set_cons_succ]
    refine tk (i := 7) (d := 37) (v := (.pointer (some ⟨g, 2, none⟩))) rfl rfl (Or.inl ⟨by rfl, by intro W hW; clear hW; go_simp⟩) hd.out ?_
    simp only [List.setIfInBounds_toArray, List.set_cons_zero, List.set_cons_succ]
    refine tk (i := 8) (d := 38) (v := (.int .i64 s)) rfl rfl (Or.inl ⟨by rfl, by intro W hW; have cc := hc2.out W hW; clear hW; go_simp⟩) hd.out ?_
    simp only [List.setIfInBounds_toArray, List.set_cons_zero, List.set_cons_succ]
    refine tk (i := 9) (d := 39) (v := (.pointer (some ⟨g, 3, none⟩))) rfl rfl (Or.inl ⟨by rfl, by intro W hW; clear hW; go_simp⟩) hd.out ?_
    simp only [List.setIfInBounds_toArray, List.set_cons_zero, List.set_cons_succ]
    refine tk (i := 10) (d := 40) (v := (.agg (u8s x).toArray)) rfl rfl (yieldsIf_load_mid (by rfl) 29 _ rfl g 3 rfl (u8s x) _ (fun W hW => hrk.out W hW) Try.underlying29 rfl (by rw [hx32.out]; exact hi32.out)) hd.out ?_
    simp only [List.setIfInBounds_toArray, List.set_cons_zero, List.set_cons_succ]
    refine wpAnyH_ready (rs := [5]) (by kernel_rfl) (by simp) ?_
    refine AllReadyH.cons rfl (fun K hK => ?_) AllReadyH.nil
    go_simp
    go_wp2_with (go_at_call 10; refine (hP.out _ hd.out).mono ?_; rintro e v1 ⟨rfl, b1⟩; have b1' := Lib.hid b1; clear b1)
    have hd1 : Hid (Below w1.heap.size w1 v1) := Lib.hid (hd.out.trans (b1'.out.mono hd.out.size))
    refine hK.out _ _ hd1.out (fun _ => ?_)
    clear hK K
    refine wpAnyH_ready (rs := [11]) (by kernel_rfl) (by simp) ?_
    refine AllReadyH.cons rfl (fun K hK => ?_) AllReadyH.nil
    go_simp
    go_wp2_with (go_at_call 38; refine (hM.out _ hd1.out).mono ?_; rintro e v2 ⟨rfl, b2⟩; have b2' := Lib.hid b2; clear b2)
    have hd2 : Hid (Below w1.heap.size w1 v2) := Lib.hid (hd1.out.trans (b2'.out.mono hd1.out.size))
    refine hK.out _ _ hd2.out (fun _ => ?_)
    clear hK K
    refine tk (i := 12) (d := 42) (v := (.bool true)) rfl rfl (Or.inl ⟨by rfl, by intro W hW; clear hW; go_simp⟩) hd2.out ?_
    simp only [List.setIfInBounds_toArray, List.set_cons_zero, List.set_cons_succ]
    refine tk (i := 13) (d := 6) (v := (.bool true)) rfl rfl (Or.inl ⟨by rfl, by intro W hW; clear hW; go_simp⟩) hd2.out ?_
    simp only [List.setIfInBounds_toArray, List.set_cons_zero, List.set_cons_succ]
    refine wpAnyH_done (by kernel_rfl) ?_ _
    have hdz := hd2
    go_wp2_with fail
    go_ret
    exact ⟨rfl, hB.out.trans (hdz.out.mono hB.out.size)⟩
  by_cases h7 : d = 7
  · subst h7
    obtain ⟨V, hV⟩ : ∃ V : Nat, ((atS L s).map (·.busy)).getD 0 = V := ⟨_, rfl⟩
    have hP : Hid (∀ W, Below w1.heap.size w1 W → Calls Try.prog 33 #[.pointer (some ⟨p, 0, none⟩), .int .i64 s] W fun e w' => e = .returned (.int .i64 (V : Int)) ∧ Below W.heap.size W w') := Lib.hid fun W hW => by
      rw [← hV]
      exact (pBusy_any W p L (hD.out W hW).pins s).mono fun e w' ⟨a, b⟩ => ⟨a, b ▸ Below.refl _ _⟩
    have hM : Hid (∀ W, Below w1.heap.size w1 W → Calls Try.prog 39 #[.pointer (some ⟨q, 0, none⟩), .int .i64 s] W fun e w' => e = .returned (.int .i64 (V : Int)) ∧ Below W.heap.size W w') := Lib.hid fun W hW => by
      rw [← hV]
      exact (rBusied_any W q f L (hD.out W hW).ref (hD.out W hW).rel s).mono fun e w' ⟨a, b⟩ => ⟨a, b ▸ Below.refl _ _⟩
    clear hV h5 h6
    go_enter Try.func31, Try.ntmps31
    go_wp2_with fail
    refine wp_region_held (S := fun W => Below w1.heap.size w1 W) (by kernel_rfl) ?_
    change wpAnyH _ _ _ _ _ _ _ _ (World.drew _)
    refine tk (i := 0) (d := 45) (v := (.pointer (some ⟨p, 0, none⟩))) rfl rfl (Or.inl ⟨by rfl, by intro W hW; clear hW; go_simp⟩) hd.out ?_
    simp only [List.setIfInBounds_toArray, List.set_cons_zero, List.set_cons_succ]
    refine tk (i := 1) (d := 46) (v := (.pointer (some ⟨g, 2, none⟩))) rfl rfl (Or.inl ⟨by rfl, by intro W hW; clear hW; go_simp⟩) hd.out ?_
    simp only [List.setIfInBounds_toArray, List.set_cons_zero, List.set_cons_succ]
    refine tk (i := 2) (d := 47) (v := (.int .i64 s)) rfl rfl (Or.inl ⟨by rfl, by intro W hW; have cc := hc2.out W hW; clear hW; go_simp⟩) hd.out ?_
    simp only [List.setIfInBounds_toArray, List.set_cons_zero, List.set_cons_succ]
    refine tk (i := 4) (d := 49) (v := (.pointer (some ⟨q, 0, none⟩))) rfl rfl (Or.inl ⟨by rfl, by intro W hW; clear hW; go_simp⟩) hd.out ?_
    simp only [List.setIfInBounds_toArray, List.set_cons_zero, List.set_cons_succ]
    refine tk (i := 5) (d := 50) (v := (.pointer (some ⟨g, 2, none⟩))) rfl rfl (Or.inl ⟨by rfl, by intro W hW; clear hW; go_simp⟩) hd.out ?_
    simp only [List.setIfInBounds_toArray, List.set_cons_zero, List.set_cons_succ]
    refine tk (i := 6) (d := 51) (v := (.int .i64 s)) rfl rfl (Or.inl ⟨by rfl, by intro W hW; have cc := hc2.out W hW; clear hW; go_simp⟩) hd.out ?_
    simp only [List.setIfInBounds_toArray, List.set_cons_zero, List.set_cons_succ]
    refine wpAnyH_ready (rs := [3]) (by kernel_rfl) (by simp) ?_
    refine AllReadyH.cons rfl (fun K hK => ?_) AllReadyH.nil
    go_simp
    go_wp2_with (go_at_call 33; refine (hP.out _ hd.out).mono ?_; rintro e v1 ⟨rfl, b1⟩; have b1' := Lib.hid b1; clear b1)
    have hd1 : Hid (Below w1.heap.size w1 v1) := Lib.hid (hd.out.trans (b1'.out.mono hd.out.size))
    refine hK.out _ _ hd1.out (fun _ => ?_)
    clear hK K
    refine wpAnyH_ready (rs := [7]) (by kernel_rfl) (by simp) ?_
    refine AllReadyH.cons rfl (fun K hK => ?_) AllReadyH.nil
    go_simp
    go_wp2_with (go_at_call 39; refine (hM.out _ hd1.out).mono ?_; rintro e v2 ⟨rfl, b2⟩; have b2' := Lib.hid b2; clear b2)
    have hd2 : Hid (Below w1.heap.size w1 v2) := Lib.hid (hd1.out.trans (b2'.out.mono hd1.out.size))
    refine hK.out _ _ hd2.out (fun _ => ?_)
    clear hK K
    refine tk (i := 8) (d := 53) (v := (.bool true)) rfl rfl (Or.inl ⟨by rfl, by intro W hW; clear hW; go_simp⟩) hd2.out ?_
    simp only [List.setIfInBounds_toArray, List.set_cons_zero, List.set_cons_succ]
    refine tk (i := 9) (d := 6) (v := (.bool true)) rfl rfl (Or.inl ⟨by rfl, by intro W hW; clear hW; go_simp⟩) hd2.out ?_
    simp only [List.setIfInBounds_toArray, List.set_cons_zero, List.set_cons_succ]
    refine wpAnyH_done (by kernel_rfl) ?_ _
    have hdz := hd2
    go_wp2_with fail
    go_ret
    exact ⟨rfl, hB.out.trans (hdz.out.mono hB.out.size)⟩
  by_cases h9 : d = 9
  · subst h9
    obtain ⟨V, hV⟩ : ∃ V : Nat, cntS L x = V := ⟨_, rfl⟩
    have hP : Hid (∀ W, Below w1.heap.size w1 W → Calls Try.prog 11 #[.pointer (some ⟨p, 0, none⟩), .agg (u8s x).toArray] W fun e w' => e = .returned (.int .i64 (V : Int)) ∧ Below W.heap.size W w') := Lib.hid fun W hW => by
      rw [← hV]
      exact pCount_any W p L (hD.out W hW).pins x hx'.out
    have hM : Hid (∀ W, Below w1.heap.size w1 W → Calls Try.prog 41 #[.pointer (some ⟨q, 0, none⟩), .agg (u8s x).toArray] W fun e w' => e = .returned (.int .i64 (V : Int)) ∧ Below W.heap.size W w') := Lib.hid fun W hW => by
      rw [← hV]
      exact rCount_any W q f L (hD.out W hW).ref (hD.out W hW).rel hlen.out x hx'.out
    clear hV h5 h6 h7
    go_enter Try.func31, Try.ntmps31
    go_wp2_with fail
    refine wp_region_held (S := fun W => Below w1.heap.size w1 W) (by kernel_rfl) ?_
    change wpAnyH _ _ _ _ _ _ _ _ (World.drew _)
    refine tk (i := 0) (d := 88) (v := (.pointer (some ⟨p, 0, none⟩))) rfl rfl (Or.inl ⟨by rfl, by intro W hW; clear hW; go_simp⟩) hd.out ?_
    simp only [List.setIfInBounds_toArray, List.set_cons_zero, List.set_cons_succ]
    refine tk (i := 1) (d := 89) (v := (.pointer (some ⟨g, 3, none⟩))) rfl rfl (Or.inl ⟨by rfl, by intro W hW; clear hW; go_simp⟩) hd.out ?_
    simp only [List.setIfInBounds_toArray, List.set_cons_zero, List.set_cons_succ]
    refine tk (i := 2) (d := 90) (v := (.agg (u8s x).toArray)) rfl rfl (yieldsIf_load_mid (by rfl) 29 _ rfl g 3 rfl (u8s x) _ (fun W hW => hrk.out W hW) Try.underlying29 rfl (by rw [hx32.out]; exact hi32.out)) hd.out ?_
    simp only [List.setIfInBounds_toArray, List.set_cons_zero, List.set_cons_succ]
    refine tk (i := 4) (d := 92) (v := (.pointer (some ⟨q, 0, none⟩))) rfl rfl (Or.inl ⟨by rfl, by intro W hW; clear hW; go_simp⟩) hd.out ?_
    simp only [List.setIfInBounds_toArray, List.set_cons_zero, List.set_cons_succ]
    refine tk (i := 5) (d := 93) (v := (.pointer (some ⟨g, 3, none⟩))) rfl rfl (Or.inl ⟨by rfl, by intro W hW; clear hW; go_simp⟩) hd.out ?_
    simp only [List.setIfInBounds_toArray, List.set_cons_zero, List.set_cons_succ]
    refine tk (i := 6) (d := 94) (v := (.agg (u8s x).toArray)) rfl rfl (yieldsIf_load_mid (by rfl) 29 _ rfl g 3 rfl (u8s x) _ (fun W hW => hrk.out W hW) Try.underlying29 rfl (by rw [hx32.out]; exact hi32.out)) hd.out ?_
    simp only [List.setIfInBounds_toArray, List.set_cons_zero, List.set_cons_succ]
    refine wpAnyH_ready (rs := [3]) (by kernel_rfl) (by simp) ?_
    refine AllReadyH.cons rfl (fun K hK => ?_) AllReadyH.nil
    go_simp
    go_wp2_with (go_at_call 11; refine (hP.out _ hd.out).mono ?_; rintro e v1 ⟨rfl, b1⟩; have b1' := Lib.hid b1; clear b1)
    have hd1 : Hid (Below w1.heap.size w1 v1) := Lib.hid (hd.out.trans (b1'.out.mono hd.out.size))
    refine hK.out _ _ hd1.out (fun _ => ?_)
    clear hK K
    refine wpAnyH_ready (rs := [7]) (by kernel_rfl) (by simp) ?_
    refine AllReadyH.cons rfl (fun K hK => ?_) AllReadyH.nil
    go_simp
    go_wp2_with (go_at_call 41; refine (hM.out _ hd1.out).mono ?_; rintro e v2 ⟨rfl, b2⟩; have b2' := Lib.hid b2; clear b2)
    have hd2 : Hid (Below w1.heap.size w1 v2) := Lib.hid (hd1.out.trans (b2'.out.mono hd1.out.size))
    refine hK.out _ _ hd2.out (fun _ => ?_)
    clear hK K
    refine tk (i := 8) (d := 96) (v := (.bool true)) rfl rfl (Or.inl ⟨by rfl, by intro W hW; clear hW; go_simp⟩) hd2.out ?_
    simp only [List.setIfInBounds_toArray, List.set_cons_zero, List.set_cons_succ]
    refine tk (i := 9) (d := 6) (v := (.bool true)) rfl rfl (Or.inl ⟨by rfl, by intro W hW; clear hW; go_simp⟩) hd2.out ?_
    simp only [List.setIfInBounds_toArray, List.set_cons_zero, List.set_cons_succ]
    refine wpAnyH_done (by kernel_rfl) ?_ _
    have hdz := hd2
    go_wp2_with fail
    go_ret
    exact ⟨rfl, hB.out.trans (hdz.out.mono hB.out.size)⟩
  by_cases h8 : d = 8
  · subst h8
    obtain ⟨F, hF⟩ : ∃ F, (nextS (atS L s) al x).isSome = F := ⟨_, rfl⟩
    obtain ⟨r, hr⟩ : ∃ r, (nextS (atS L s) al x).getD (zeros 32) = r := ⟨_, rfl⟩
    have hP : Hid (∀ W, Below w1.heap.size w1 W → Calls Try.prog 8 #[.pointer (some ⟨p, 0, none⟩), .int .i64 s, .agg (u8s x).toArray, .bool al] W fun e w' => e = .returned (.tuple #[.agg (u8s r).toArray, .bool F]) ∧ Below W.heap.size W w') := Lib.hid fun W hW => by
      rw [← hr, ← hF]
      exact pNext_any W p L (hD.out W hW).pins s x hx'.out al
    have hM : Hid (∀ W, Below w1.heap.size w1 W → Calls Try.prog 40 #[.pointer (some ⟨q, 0, none⟩), .int .i64 s, .agg (u8s x).toArray, .bool al] W fun e w' => e = .returned (.tuple #[.agg (u8s r).toArray, .bool F]) ∧ Below W.heap.size W w') := Lib.hid fun W hW => by
      rw [← hr, ← hF]
      exact rNext_any W q f L (hD.out W hW).ref (hD.out W hW).rel hlen.out s x hx'.out al
    have hrk32 : r.length = 32 := by
      rw [← hr]
      have hrl : ∀ σ, atS L s = some σ → Rise32 σ.ks := fun σ hσ => by
        have hpn := (hD.out w1 (Below.refl _ _)).pins
        obtain ⟨k, _, _, hk⟩ := hpn.atS_some hσ
        exact (hpn.ses k σ hk).2.rise
      cases hy : atS L s with
      | none => simp [nextS, zeros]
      | some σ =>
        cases hz : σ.ks.find? (passK al x) with
        | none => simp [nextS, hz, zeros]
        | some z =>
          simp only [nextS, Option.bind_some, hz, Option.getD_some]
          exact ((hrl σ hy).ok z (List.mem_of_find?_eq_some hz)).1
    have hrs : Hid ((u8s r).toArray.size = 32) := Lib.hid (by simp [u8s, hrk32])
    have hzs : Hid ((u8s (zeros 32)).toArray.size = 32) := Lib.hid (by simp [u8s, zeros])
    have heq : ∀ W, (binOp .eql 29 (.agg (u8s r).toArray) (.agg (u8s r).toArray)).run Try.prog W = .ok (.bool true) W := fun W => by
      have := eqK hrk32 hrk32 W
      rwa [decide_eq_true rfl] at this
    have hzk := zeroQy
    have c2 := hc2.out w1 (Below.refl _ _)
    have c35 := hc35.out w1 (Below.refl _ _)
    clear hF hr h5 h6 h7 h9 hd hrk32
    go_enter Try.func31, Try.ntmps31
    go_wp2_with (first
      | (refine wpList_load_mid rfl 29 _ rfl g 3 rfl (u8s x) _ (hrk.out w1 (Below.refl _ _)) Try.underlying29 rfl (by rw [hx32.out]; exact hi32.out) ?_)
      | (go_at_call 8; refine (hP.out _ (Below.refl _ _)).mono ?_; rintro e va ⟨rfl, ba⟩
         have hBa := Lib.hid ba
         have hkn := Lib.hid (key_newQ va r)
         clear ba hP)
      | (refine wpList_store_row rfl 29 _ _ rfl va.heap.size (u8s r).toArray rfl rfl 29 _ (heap_alloc_new va _) (by rw [hrs.out]; exact hi32.out) (by rw [hrs.out, hzs.out]) (all_oneCell_toArray u8s_one) ?_
         obtain ⟨vb, hvb⟩ : ∃ vb, (va.alloc (.cells (u8s (zeros 32)).toArray 29)).setRow va.heap.size (u8s r).toArray = vb := ⟨_, rfl⟩
         rw [hvb] at hkn ⊢
         have hBb := Lib.hid (hBa.out.trans (hkn.out.2.mono hBa.out.size))
         have hY := Lib.hid hkn.out.1
         obtain ⟨ga, hga⟩ : ∃ ga, va.heap.size = ga := ⟨_, rfl⟩
         rw [hga] at hY ⊢
         have c2 := hc2.out vb hBb.out
         have c35 := hc35.out vb hBb.out
         clear hvb hkn hga)
      | (refine wpList_load_mid rfl 29 _ rfl g 3 rfl (u8s x) _ (hrk.out vb hBb.out) Try.underlying29 rfl (by rw [hx32.out]; exact hi32.out) ?_)
      | (go_at_call 40; refine (hM.out _ hBb.out).mono ?_; rintro e vc ⟨rfl, bc⟩
         have hBc := Lib.hid (hBb.out.trans (bc.mono hBb.out.size))
         have hYc : Hid (BlkY vc ga r) := Lib.hid ((bc.block _ (Array.getElem?_eq_some_iff.1 hY.out).1).trans hY.out)
         have hkn := Lib.hid (key_newQ vc r)
         clear bc hM)
      | (refine wpList_store_row rfl 29 _ _ rfl vc.heap.size (u8s r).toArray rfl rfl 29 _ (heap_alloc_new vc _) (by rw [hrs.out]; exact hi32.out) (by rw [hrs.out, hzs.out]) (all_oneCell_toArray u8s_one) ?_
         obtain ⟨vd, hvd⟩ : ∃ vd, (vc.alloc (.cells (u8s (zeros 32)).toArray 29)).setRow vc.heap.size (u8s r).toArray = vd := ⟨_, rfl⟩
         rw [hvd] at hkn ⊢
         have hBd := Lib.hid (hBc.out.trans (hkn.out.2.mono hBc.out.size))
         have hYd : Hid (BlkY vd ga r) := Lib.hid ((hkn.out.2.block _ (Array.getElem?_eq_some_iff.1 hYc.out).1).trans hYc.out)
         have hZ := Lib.hid hkn.out.1
         obtain ⟨gc, hgc⟩ : ∃ gc, vc.heap.size = gc := ⟨_, rfl⟩
         rw [hgc] at hZ ⊢
         clear hvd hkn hgc)
      | (refine wpList_load_row rfl 29 _ rfl ga rfl 29 (u8s r).toArray (0, 0) _ hYd.out Try.underlying29 rfl (by rw [hrs.out]; exact hi32.out) ?_)
      | (refine wpList_load_row rfl 29 _ rfl gc rfl 29 (u8s r).toArray (0, 0) _ hZ.out Try.underlying29 rfl (by rw [hrs.out]; exact hi32.out) ?_))
    go_ret
    exact ⟨rfl, hB.out.trans (hBd.out.mono hB.out.size)⟩
  by_cases h10 : d = 10
  · subst h10
    have hR : Hid (∀ W, Below w1.heap.size w1 W → Calls Try.prog 42 #[.pointer (some ⟨q, 0, none⟩)] W (SessQ W (tellS L 16).length (tellS L 16))) := Lib.hid fun W hW =>
      (rSessions_any W q f L (hD.out W hW).ref (hD.out W hW).rel (fun i hi => Nat.le_trans ((hD.out W hW).rlen i hi) hN)).mono fun e w' h => sessQ h
    have hS : Hid (∀ W, Below w1.heap.size w1 W → Calls Try.prog 34 #[.pointer (some ⟨p, 0, none⟩)] W (SessQ W (tellS L 16).length (tellS L 16))) := Lib.hid fun W hW =>
      (pSessions_any W p L (hD.out W hW).pins (fun i σ hi => Nat.le_trans (hsm.out i σ hi).2.2 hN)).mono fun e w' h => sessQ h
    have hle := tellS_le L
    have hsl : Hid (∀ σ, σ ∈ tellS L 16 → σ.2.2.length ≤ 4398046511104) := Lib.hid fun σ hσ => by
      unfold tellS at hσ
      obtain ⟨i, hi, hm⟩ := List.mem_filterMap.1 hσ
      cases ha : atS L (i : Int) with
      | none => rw [ha] at hm; cases hm
      | some τ =>
        rw [ha] at hm
        cases hm
        obtain ⟨k, _, _, hk⟩ := (hD.out w1 (Below.refl _ _)).pins.atS_some ha
        exact Nat.le_trans (hsm.out k τ hk).2.2 hN
    generalize tellS L 16 = tl at hR hS hle hsl
    obtain ⟨n, hn⟩ : ∃ n, tl.length = n := ⟨_, rfl⟩
    rw [hn] at hR hS hle
    have hlenS : Hid (∀ l : List SE, l.map seOf = tl → ∀ (i : Nat) e, l[i]? = some e → e.ks.length ≤ 4398046511104) := Lib.hid fun l hl i e hi =>
      hsl.out (seOf e) (by rw [← hl]; exact List.mem_map_of_mem (List.mem_of_getElem? hi))
    have hS1 := hS
    have hS2 := hS
    have hS3 := hS
    have hS4 := hS
    clear hn hsl hS h5 h6 h7 h8 h9 hd hsm
    unfold SessQ at hR hS1 hS2 hS3 hS4
    go_enter Try.func31, Try.ntmps31
    go_wp2_with (first
      | (go_at_call 42; refine (hR.out _ (Below.refl _ _)).mono ?_; rintro e v0 ⟨A0, c0, l0, rfl, s0, t0, n0, b0⟩
         have hb0 := Lib.hid b0
         have hs0 := Lib.hid s0
         have ht0 := Lib.hid t0
         have hn0 := Lib.hid n0
         have hq0 := Lib.hid (fun k (hk : FS l0 A0 k) => (s0.fs hk).2)
         clear b0 s0 t0 n0 hR)
      | (go_at_call 34; refine (hS1.out v0 hb0.out).mono ?_; rintro e v1 ⟨A1, c1, l1, rfl, s1, t1, n1, b1⟩
         have hb1 := Lib.hid (hb0.out.trans (b1.mono hb0.out.size))
         have hs01 := Lib.hid (hs0.out.below b1)
         have hs1 := Lib.hid s1
         have ht1 := Lib.hid t1
         have hn1 := Lib.hid n1
         have hq1 := Lib.hid (fun k (hk : FS l1 A1 k) => (s1.fs hk))
         have hz1 := Lib.hid b1.size
         clear b1 s1 t1 n1 hS1 hs0)
      | (go_at_call 34; refine (hS2.out v1 hb1.out).mono ?_; rintro e v2 ⟨A2, c2, l2, rfl, s2, t2, n2, b2⟩
         have hb2 := Lib.hid (hb1.out.trans (b2.mono hb1.out.size))
         have hs02 := Lib.hid (hs01.out.below b2)
         have hs12 := Lib.hid (hs1.out.below b2)
         have hs2 := Lib.hid s2
         have ht2 := Lib.hid t2
         have hn2 := Lib.hid n2
         have hq2 := Lib.hid (fun k (hk : FS l2 A2 k) => (s2.fs hk))
         have hz2 := Lib.hid b2.size
         clear b2 s2 t2 n2 hS2 hs01 hs1)
      | (go_at_call 34; refine (hS3.out v2 hb2.out).mono ?_; rintro e v3 ⟨A3, c3, l3, rfl, s3, t3, n3, b3⟩
         have hb3 := Lib.hid (hb2.out.trans (b3.mono hb2.out.size))
         have hs03 := Lib.hid (hs02.out.below b3)
         have hs13 := Lib.hid (hs12.out.below b3)
         have hs23 := Lib.hid (hs2.out.below b3)
         have hs3 := Lib.hid s3
         have ht3 := Lib.hid t3
         have hn3 := Lib.hid n3
         have hq3 := Lib.hid (fun k (hk : FS l3 A3 k) => (s3.fs hk).1)
         have hE1 := Lib.hid (sameSessions_any v3 _ _ c1 c0 n A1 A0 l1 l0 hs13.out hs03.out (ht1.out.trans ht0.out.symm) hn1.out hn0.out hle)
         clear b3 s3 t3 n3 hS3 hs02 hs12 hs2)
      | (go_at_call 43; refine hE1.out.mono ?_; rintro e v4 ⟨rfl, d4⟩
         have hb4 := Lib.hid (below_drs hb3.out d4)
         have hs04 := Lib.hid (hs03.out.drs d4)
         have hs14 := Lib.hid (hs13.out.drs d4)
         have hs24 := Lib.hid (hs23.out.drs d4)
         have hs34 := Lib.hid (hs3.out.drs d4)
         have hE2 := Lib.hid (sameSessions_any v4 _ _ c2 c0 n A2 A0 l2 l0 hs24.out hs04.out (ht2.out.trans ht0.out.symm) hn2.out hn0.out hle)
         clear d4 hE1 hs03 hs13 hs23 hs3 hb3)
      | (go_at_call 43; refine hE2.out.mono ?_; rintro e v5 ⟨rfl, d5⟩
         have hb5 := Lib.hid (below_drs hb4.out d5)
         have hs05 := Lib.hid (hs04.out.drs d5)
         have hs15 := Lib.hid (hs14.out.drs d5)
         have hs25 := Lib.hid (hs24.out.drs d5)
         have hs35 := Lib.hid (hs34.out.drs d5)
         have hE3 := Lib.hid (sameSessions_any v5 _ _ c3 c0 n A3 A0 l3 l0 hs35.out hs05.out (ht3.out.trans ht0.out.symm) hn3.out hn0.out hle)
         clear d5 hE2 hs04 hs14 hs24 hs34 hb4)
      | (go_at_call 43; refine hE3.out.mono ?_; rintro e v6 ⟨rfl, d6⟩
         have hb6 := Lib.hid (below_drs hb5.out d6)
         have hs06 := Lib.hid (hs05.out.drs d6)
         have hs16 := Lib.hid (hs15.out.drs d6)
         have hs26 := Lib.hid (hs25.out.drs d6)
         have hs36 := Lib.hid (hs35.out.drs d6)
         have hP1 : Hid (Calls Try.prog 44 #[.slice A1 n c1, .int .i64 1] v6 fun e w' => e = .returned (.bool true) ∧ Upd (FS l1 A1) v6 w') := Lib.hid (spoilt_any v6 _ c1 n 1 A1 l1 hs16.out hn1.out hle (hlenS.out l1 ht1.out) (by omega))
         clear d6 hE3 hs05 hs15 hs25 hs35 hb5 hs16)
      | (go_at_call 44; refine hP1.out.mono ?_; rintro e v7 ⟨rfl, u7⟩
         have hb7 := Lib.hid (hb6.out.trans (u7.below (fun k _ hk => Nat.le_trans hb0.out.size (hq1.out k hk).1) hb6.out.size))
         have hs07 := Lib.hid (hs06.out.updF u7 (fun k hk hF => by have a := hq0.out k hk; have b := hq1.out k hF; omega))
         have hs27 := Lib.hid (hs26.out.updF u7 (fun k hk hF => by have a := hq2.out k hk; have b := hq1.out k hF; omega))
         have hs37 := Lib.hid (hs36.out.updF u7 (fun k hk hF => by have a := hq3.out k hk; have b := hq1.out k hF; have c := hz2.out; omega))
         have hP2 : Hid (Calls Try.prog 44 #[.slice A2 n c2, .int .i64 2] v7 fun e w' => e = .returned (.bool true) ∧ Upd (FS l2 A2) v7 w') := Lib.hid (spoilt_any v7 _ c2 n 2 A2 l2 hs27.out hn2.out hle (hlenS.out l2 ht2.out) (by omega))
         clear u7 hP1 hs06 hs26 hs36 hb6 hs27)
      | (go_at_call 44; refine hP2.out.mono ?_; rintro e v8 ⟨rfl, u8⟩
         have hb8 := Lib.hid (hb7.out.trans (u8.below (fun k _ hk => Nat.le_trans hb1.out.size (hq2.out k hk).1) hb7.out.size))
         have hs08 := Lib.hid (hs07.out.updF u8 (fun k hk hF => by have a := hq0.out k hk; have b := hq2.out k hF; have c := hz1.out; omega))
         have hs38 := Lib.hid (hs37.out.updF u8 (fun k hk hF => by have a := hq3.out k hk; have b := hq2.out k hF; omega))
         have hE4 := Lib.hid (sameSessions_any v8 _ _ c3 c0 n A3 A0 l3 l0 hs38.out hs08.out (ht3.out.trans ht0.out.symm) hn3.out hn0.out hle)
         clear u8 hP2 hs07 hs37 hb7)
      | (go_at_call 43; refine hE4.out.mono ?_; rintro e v9 ⟨rfl, d9⟩
         have hb9 := Lib.hid (below_drs hb8.out d9)
         have hs09 := Lib.hid (hs08.out.drs d9)
         clear d9 hE4 hs08 hs38 hb8)
      | (go_at_call 34; refine (hS4.out v9 hb9.out).mono ?_; rintro e v10 ⟨A4, c4, l4, rfl, s4, t4, n4, b4⟩
         have hb10 := Lib.hid (hb9.out.trans (b4.mono hb9.out.size))
         have hs010 := Lib.hid (hs09.out.below b4)
         have hE5 := Lib.hid (sameSessions_any v10 _ _ c4 c0 n A4 A0 l4 l0 s4 hs010.out (t4.trans ht0.out.symm) n4 hn0.out hle)
         clear b4 s4 t4 n4 hS4 hs09)
      | (go_at_call 43; refine hE5.out.mono ?_; rintro e v11 ⟨rfl, d11⟩
         have hb11 := Lib.hid (below_drs hb10.out d11)
         clear d11 hE5))
    go_ret
    exact ⟨rfl, hB.out.trans (hb11.out.mono hB.out.size)⟩
  · have e5 : (d == 5) = false := by simp [h5]
    have e6 : (d == 6) = false := by simp [h6]
    have e7 : (d == 7) = false := by simp [h7]
    have e8 : (d == 8) = false := by simp [h8]
    have e9 : (d == 9) = false := by simp [h9]
    have e10 : (d == 10) = false := by simp [h10]
    clear hd
    go_enter Try.func31, Try.ntmps31
    go_wp2_with fail
    go_ret
    exact ⟨rfl, hB.out⟩
end Go.Proofs.Ytgjokkjmljdmbaa
