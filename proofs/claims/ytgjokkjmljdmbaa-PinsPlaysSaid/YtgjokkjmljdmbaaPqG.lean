/- done: a step of the script. (Printed by tools/genpq6.py.) -/
import Derived.Test.YtgjokkjmljdmbaaPqD
namespace Go.Proofs.Ytgjokkjmljdmbaa
open Go.RowKit Go.Maps
set_option linter.unusedSimpArgs false
set_option linter.unusedVariables false

/-- The boxed step. -/
def StG (g : Nat) (d : Int) (o : Bool) (s : Int) (x : List Nat) (al : Bool) (W : World) : Prop := W.heap[g]? = some (.cells (stepL d o s x al).toArray 46 (0, 0))
section
variable {g : Nat} {d s : Int} {o al : Bool} {x : List Nat} {W W' : World}
theorem StG.cell (h : StG g d o s x al W) (j : Nat) : W.cell? ⟨g, j, none⟩ = (stepL d o s x al)[j]? := by
  unfold StG at h
  unfold World.cell?
  simp [h]
theorem StG.c0 (h : StG g d o s x al W) : W.cell? ⟨g, 0, none⟩ = some (.int .i64 d) := h.cell 0
theorem StG.c2 (h : StG g d o s x al W) : W.cell? ⟨g, 2, none⟩ = some (.int .i64 s) := h.cell 2
theorem stG_key (h : StG g d o s x al W) : W.rangeAt g 3 (u8s x) := fun j v hv => by
  rw [h.cell (3 + j)]
  unfold stepL
  have hj : j < (u8s x).length := (List.getElem?_eq_some_iff.1 hv).1
  rw [List.getElem?_append_right (by simp), List.getElem?_append_left (by simpa using hj)]
  simpa using hv
theorem StG.upd {F : Nat → Prop} (h : StG g d o s x al W) (hu : Upd F W W') (hF : ¬ F g) : StG g d o s x al W' := (hu.block g (Array.getElem?_eq_some_iff.1 h).1 hF).trans h
end
theorem Duo.mono {w : World} {B p q N M : Nat} {L : List (Option Ses)} {f : Nat → RSes} (h : Duo w B p L q f N) (hM : N ≤ M) : Duo w B p L q f M :=
  ⟨h.pins, h.ref, h.rel, h.lo, fun i σ hi => by have := h.small i σ hi; omega⟩
theorem Duo.ge {w : World} {B p q N : Nat} {L : List (Option Ses)} {f : Nat → RSes} (h : Duo w B p L q f N) : B ≤ w.heap.size := by
  have h1 := h.lo q (.inr rfl)
  have h2 := h.ref.lt
  omega
/-- Both calls, one behind the other. -/
theorem two_of {fP fR : Nat} {argf : Value → Array Value} {w w1 : World} {B p q N g : Nat} {L : List (Option Ses)} {f : Nat → RSes} {v d s : Int} {o al : Bool} {x : List Nat} {X : List (Option Ses) → Prop} (h : Duo w B p L q f N) (hB : Below w.heap.size w w1) (h1 : Duo w1 B p L q f N) (hst : StG g d o s x al w1)
    (cP : Calls Try.prog fP (argf (.pointer (some ⟨p, 0, none⟩))) w1 (fun e w' => e = .returned (.int .i64 v) ∧ ∃ L', GL w1 p N L L' ∧ X L' ∧ PinsAt w' p L' ∧ Upd (Wr p L) w1 w'))
    (cR : ∀ W L', X L' → RefAt W q f → Calls Try.prog fR (argf (.pointer (some ⟨q, 0, none⟩))) W (fun e w' => e = .returned (.int .i64 v) ∧ ∃ f', Rel L' f' ∧ RefAt w' q f' ∧ Upd (AtQ q) W w')) :
    ∃ R1 R2 : World → Prop, Calls Try.prog fP (argf (.pointer (some ⟨p, 0, none⟩))) w1 (fun e w' => e = .returned (.int .i64 v) ∧ R1 w') ∧ (∀ W, R1 W → Calls Try.prog fR (argf (.pointer (some ⟨q, 0, none⟩))) W (fun e w' => e = .returned (.int .i64 v) ∧ R2 w')) ∧
      (∀ W, R1 W → StG g d o s x al W) ∧ (∀ W, R2 W → StG g d o s x al W) ∧ ∀ W, R2 W → DoneP w B p L q f N (.returned (.bool true)) W := by
  have hgP : ¬ Wr p L g := fun hk => by have := wr_tag h1.pins hk hst; revert this; decide
  have hgq : g ≠ q := fun e => by
    have h2 := h1.ref.cells
    rw [← e, show w1.heap[g]? = _ from hst] at h2
    cases h2
  refine ⟨fun W => ∃ L', (GL w1 p N L L' ∧ X L') ∧ PinsAt W p L' ∧ RefAt W q f ∧ StG g d o s x al W ∧ Upd (Wr p L) w1 W, fun W => DoneP w B p L q f N (.returned (.bool true)) W ∧ StG g d o s x al W, ?_, ?_, ?_, ?_, ?_⟩
  · refine cP.mono fun e w' ⟨e1, L', a1, a2, a3, a4⟩ => ⟨e1, L', ⟨a1, a2⟩, a3, h1.ref.updP h1.pins a4, hst.upd a4 hgP, a4⟩
  · rintro W ⟨L', ⟨a1, a2⟩, a3, a4, a5, a6⟩
    refine (cR W L' a2 a4).mono fun e w' ⟨e1, f', b1, b2, b3⟩ => ⟨e1, ⟨rfl, L', f', ⟨a3.updR a4 b3, b2, b1, fun k hk => ?_, a1.2⟩, ?_, fun k hk => ?_⟩, a5.upd b3 hgq⟩
    · rcases hk with hk | rfl
      · rcases a1.1 k hk with hk | hk
        · exact h.lo k (.inl hk)
        · exact Nat.le_trans h.ge (Nat.le_trans hB.size hk)
      · exact h.lo _ (.inr rfl)
    · exact ((Upd.of_below hB).trans (a6.mono fun k hk => .inl hk)).trans (b3.mono fun k hk => .inr hk)
    · rcases hk with hk | rfl
      · rcases a1.1 k hk with hk | hk
        · exact .inl (.inl hk)
        · exact .inr (Nat.le_trans hB.size hk)
      · exact .inl (.inr rfl)
  · rintro W ⟨_, _, _, _, a5, _⟩
    exact a5
  · rintro W ⟨_, a⟩
    exact a
  · rintro W ⟨a, _⟩
    exact a
set_option maxRecDepth 100000 in
set_option maxHeartbeats 1000000 in
theorem done_open (w : World) (B p q N : Nat) (L : List (Option Ses)) (f : Nat → RSes) (h : Duo w B p L q f N) (hN : N < 4398046511104) (o : Bool) (s : Int) (x : List Nat) (hx : IsK x) (al : Bool) :
    Calls Try.prog 14 #[.pointer (some ⟨p, 0, none⟩), .pointer (some ⟨q, 0, none⟩), .agg (stepL 0 o s x al).toArray] w (DoneP w B p L q f N) := by
  obtain ⟨g, hg⟩ : ∃ g, w.heap.size = g := ⟨_, rfl⟩
  obtain ⟨w1, hw1⟩ : ∃ w1, w.alloc (.cells (stepL 0 o s x al).toArray 46) = w1 := ⟨_, rfl⟩
  have hB : Below w.heap.size w w1 := by rw [← hw1]; exact (Below.refl _ _).alloc (Nat.le_refl _) _
  have hst : StG g 0 o s x al w1 := by unfold StG; rw [← hw1, ← hg]; exact heap_alloc_new w _
  have hd1 : Duo w1.drew B p L q f N := (h.below hB).below (below_drewN (Below.refl _ _) 1)
  obtain ⟨v, X, cP, cR⟩ := open_pair hd1 s
  obtain ⟨R1, R2, hP0, hM0, hS10, hS20, hF0⟩ := two_of (argf := fun a => #[a, .int .i64 s]) h (below_drewN hB 1) hd1 (show StG g 0 o s x al w1.drew from hst) cP cR
  have c0 : w1.cell? ⟨g, 0, none⟩ = some (.int .i64 0) := hst.c0
  have hd : Hid (StG g 0 o s x al w1.drew) := Lib.hid hst
  have hi32 : Hid ((Try.prog.info? 29).map (·.size) = some 32) := Lib.hid (by kernel_rfl)
  have hx32 : Hid ((u8s x).length = 32) := Lib.hid (by simp [u8s, hx.1])
  have hP := Lib.hid hP0
  have hM := Lib.hid hM0
  have hS1 := Lib.hid hS10
  have hS2 := Lib.hid hS20
  have hF := Lib.hid hF0
  obtain ⟨Q, hQ⟩ : ∃ Q, DoneP w B p L q f N = Q := ⟨_, rfl⟩
  rw [hQ] at hF ⊢
  generalize (stepL 0 o s x al).toArray = ar at hw1 ⊢
  clear h hB hst hd1 cP cR hQ hx hP0 hM0 hS10 hS20 hF0
  go_enter Try.func14, Try.ntmps14
  go_wp2_with fail
  refine wp_region_held (S := StG g 0 o s x al) (by kernel_rfl) ?_
  change wpAnyH _ _ _ _ _ _ _ _ (World.drew _)
  refine tk (i := 0) (d := 11) (v := (.pointer (some ⟨p, 0, none⟩))) rfl rfl (Or.inl ⟨by rfl, by intro W hW; clear hW; go_simp⟩) hd.out ?_
  simp only [List.setIfInBounds_toArray, List.set_cons_zero, List.set_cons_succ]
  refine tk (i := 1) (d := 12) (v := (.pointer (some ⟨g, 2, none⟩))) rfl rfl (Or.inl ⟨by rfl, by intro W hW; clear hW; go_simp⟩) hd.out ?_
  simp only [List.setIfInBounds_toArray, List.set_cons_zero, List.set_cons_succ]
  refine tk (i := 2) (d := 13) (v := (.int .i64 s)) rfl rfl (Or.inl ⟨by rfl, by intro W hW; have cc := hW.c2; clear hW; go_simp⟩) hd.out ?_
  simp only [List.setIfInBounds_toArray, List.set_cons_zero, List.set_cons_succ]
  refine tk (i := 4) (d := 15) (v := (.pointer (some ⟨q, 0, none⟩))) rfl rfl (Or.inl ⟨by rfl, by intro W hW; clear hW; go_simp⟩) hd.out ?_
  simp only [List.setIfInBounds_toArray, List.set_cons_zero, List.set_cons_succ]
  refine tk (i := 5) (d := 16) (v := (.pointer (some ⟨g, 2, none⟩))) rfl rfl (Or.inl ⟨by rfl, by intro W hW; clear hW; go_simp⟩) hd.out ?_
  simp only [List.setIfInBounds_toArray, List.set_cons_zero, List.set_cons_succ]
  refine tk (i := 6) (d := 17) (v := (.int .i64 s)) rfl rfl (Or.inl ⟨by rfl, by intro W hW; have cc := hW.c2; clear hW; go_simp⟩) hd.out ?_
  simp only [List.setIfInBounds_toArray, List.set_cons_zero, List.set_cons_succ]
  refine wpAnyH_ready (rs := [3]) (by kernel_rfl) (by simp) ?_
  refine AllReadyH.cons rfl (fun K hK => ?_) AllReadyH.nil
  go_simp
  go_wp2_with (go_at_call 6; refine hP.out.mono ?_; rintro e v1 ⟨rfl, r1⟩; have r1' := Lib.hid r1; clear r1 hP)
  have hd1 := Lib.hid (hS1.out v1 r1'.out)
  refine hK.out _ _ hd1.out (fun _ => ?_)
  clear hK K
  refine wpAnyH_ready (rs := [7]) (by kernel_rfl) (by simp) ?_
  refine AllReadyH.cons rfl (fun K hK => ?_) AllReadyH.nil
  go_simp
  go_wp2_with (go_at_call 24; refine (hM.out v1 r1'.out).mono ?_; rintro e v2 ⟨rfl, r2⟩; have r2' := Lib.hid r2; clear r2 hM)
  have hd2 := Lib.hid (hS2.out v2 r2'.out)
  refine hK.out _ _ hd2.out (fun _ => ?_)
  clear hK K
  refine tk (i := 8) (d := 19) (v := (.bool true)) rfl rfl (Or.inl ⟨by rfl, by intro W hW; clear hW; go_simp⟩) hd2.out ?_
  simp only [List.setIfInBounds_toArray, List.set_cons_zero, List.set_cons_succ]
  refine tk (i := 9) (d := 6) (v := (.bool true)) rfl rfl (Or.inl ⟨by rfl, by intro W hW; clear hW; go_simp⟩) hd2.out ?_
  simp only [List.setIfInBounds_toArray, List.set_cons_zero, List.set_cons_succ]
  refine wpAnyH_done (by kernel_rfl) ?_ _
  have hf := Lib.hid (hF.out v2 r2'.out)
  go_wp2_with fail
  exact hf.out
set_option maxRecDepth 100000 in
set_option maxHeartbeats 1000000 in
theorem done_close (w : World) (B p q N : Nat) (L : List (Option Ses)) (f : Nat → RSes) (h : Duo w B p L q f N) (hN : N < 4398046511104) (o : Bool) (s : Int) (x : List Nat) (hx : IsK x) (al : Bool) :
    Calls Try.prog 14 #[.pointer (some ⟨p, 0, none⟩), .pointer (some ⟨q, 0, none⟩), .agg (stepL 1 o s x al).toArray] w (DoneP w B p L q f N) := by
  obtain ⟨g, hg⟩ : ∃ g, w.heap.size = g := ⟨_, rfl⟩
  obtain ⟨w1, hw1⟩ : ∃ w1, w.alloc (.cells (stepL 1 o s x al).toArray 46) = w1 := ⟨_, rfl⟩
  have hB : Below w.heap.size w w1 := by rw [← hw1]; exact (Below.refl _ _).alloc (Nat.le_refl _) _
  have hst : StG g 1 o s x al w1 := by unfold StG; rw [← hw1, ← hg]; exact heap_alloc_new w _
  have hd1 : Duo w1.drew B p L q f N := (h.below hB).below (below_drewN (Below.refl _ _) 1)
  obtain ⟨v, X, cP, cR⟩ := close_pair hd1 s
  obtain ⟨R1, R2, hP0, hM0, hS10, hS20, hF0⟩ := two_of (argf := fun a => #[a, .int .i64 s]) h (below_drewN hB 1) hd1 (show StG g 1 o s x al w1.drew from hst) cP cR
  have c0 : w1.cell? ⟨g, 0, none⟩ = some (.int .i64 1) := hst.c0
  have hd : Hid (StG g 1 o s x al w1.drew) := Lib.hid hst
  have hi32 : Hid ((Try.prog.info? 29).map (·.size) = some 32) := Lib.hid (by kernel_rfl)
  have hx32 : Hid ((u8s x).length = 32) := Lib.hid (by simp [u8s, hx.1])
  have hP := Lib.hid hP0
  have hM := Lib.hid hM0
  have hS1 := Lib.hid hS10
  have hS2 := Lib.hid hS20
  have hF := Lib.hid hF0
  obtain ⟨Q, hQ⟩ : ∃ Q, DoneP w B p L q f N = Q := ⟨_, rfl⟩
  rw [hQ] at hF ⊢
  generalize (stepL 1 o s x al).toArray = ar at hw1 ⊢
  clear h hB hst hd1 cP cR hQ hx hP0 hM0 hS10 hS20 hF0
  go_enter Try.func14, Try.ntmps14
  go_wp2_with fail
  refine wp_region_held (S := StG g 1 o s x al) (by kernel_rfl) ?_
  change wpAnyH _ _ _ _ _ _ _ _ (World.drew _)
  refine tk (i := 0) (d := 22) (v := (.pointer (some ⟨p, 0, none⟩))) rfl rfl (Or.inl ⟨by rfl, by intro W hW; clear hW; go_simp⟩) hd.out ?_
  simp only [List.setIfInBounds_toArray, List.set_cons_zero, List.set_cons_succ]
  refine tk (i := 1) (d := 23) (v := (.pointer (some ⟨g, 2, none⟩))) rfl rfl (Or.inl ⟨by rfl, by intro W hW; clear hW; go_simp⟩) hd.out ?_
  simp only [List.setIfInBounds_toArray, List.set_cons_zero, List.set_cons_succ]
  refine tk (i := 2) (d := 24) (v := (.int .i64 s)) rfl rfl (Or.inl ⟨by rfl, by intro W hW; have cc := hW.c2; clear hW; go_simp⟩) hd.out ?_
  simp only [List.setIfInBounds_toArray, List.set_cons_zero, List.set_cons_succ]
  refine tk (i := 4) (d := 26) (v := (.pointer (some ⟨q, 0, none⟩))) rfl rfl (Or.inl ⟨by rfl, by intro W hW; clear hW; go_simp⟩) hd.out ?_
  simp only [List.setIfInBounds_toArray, List.set_cons_zero, List.set_cons_succ]
  refine tk (i := 5) (d := 27) (v := (.pointer (some ⟨g, 2, none⟩))) rfl rfl (Or.inl ⟨by rfl, by intro W hW; clear hW; go_simp⟩) hd.out ?_
  simp only [List.setIfInBounds_toArray, List.set_cons_zero, List.set_cons_succ]
  refine tk (i := 6) (d := 28) (v := (.int .i64 s)) rfl rfl (Or.inl ⟨by rfl, by intro W hW; have cc := hW.c2; clear hW; go_simp⟩) hd.out ?_
  simp only [List.setIfInBounds_toArray, List.set_cons_zero, List.set_cons_succ]
  refine wpAnyH_ready (rs := [3]) (by kernel_rfl) (by simp) ?_
  refine AllReadyH.cons rfl (fun K hK => ?_) AllReadyH.nil
  go_simp
  go_wp2_with (go_at_call 23; refine hP.out.mono ?_; rintro e v1 ⟨rfl, r1⟩; have r1' := Lib.hid r1; clear r1 hP)
  have hd1 := Lib.hid (hS1.out v1 r1'.out)
  refine hK.out _ _ hd1.out (fun _ => ?_)
  clear hK K
  refine wpAnyH_ready (rs := [7]) (by kernel_rfl) (by simp) ?_
  refine AllReadyH.cons rfl (fun K hK => ?_) AllReadyH.nil
  go_simp
  go_wp2_with (go_at_call 25; refine (hM.out v1 r1'.out).mono ?_; rintro e v2 ⟨rfl, r2⟩; have r2' := Lib.hid r2; clear r2 hM)
  have hd2 := Lib.hid (hS2.out v2 r2'.out)
  refine hK.out _ _ hd2.out (fun _ => ?_)
  clear hK K
  refine tk (i := 8) (d := 30) (v := (.bool true)) rfl rfl (Or.inl ⟨by rfl, by intro W hW; clear hW; go_simp⟩) hd2.out ?_
  simp only [List.setIfInBounds_toArray, List.set_cons_zero, List.set_cons_succ]
  refine tk (i := 9) (d := 6) (v := (.bool true)) rfl rfl (Or.inl ⟨by rfl, by intro W hW; clear hW; go_simp⟩) hd2.out ?_
  simp only [List.setIfInBounds_toArray, List.set_cons_zero, List.set_cons_succ]
  refine wpAnyH_done (by kernel_rfl) ?_ _
  have hf := Lib.hid (hF.out v2 r2'.out)
  go_wp2_with fail
  exact hf.out
set_option maxRecDepth 100000 in
set_option maxHeartbeats 1000000 in
theorem done_pin (w : World) (B p q N : Nat) (L : List (Option Ses)) (f : Nat → RSes) (h : Duo w B p L q f N) (hN : N < 4398046511104) (o : Bool) (s : Int) (x : List Nat) (hx : IsK x) (al : Bool) :
    Calls Try.prog 14 #[.pointer (some ⟨p, 0, none⟩), .pointer (some ⟨q, 0, none⟩), .agg (stepL 2 o s x al).toArray] w (DoneP w B p L q f N) := by
  obtain ⟨g, hg⟩ : ∃ g, w.heap.size = g := ⟨_, rfl⟩
  obtain ⟨w1, hw1⟩ : ∃ w1, w.alloc (.cells (stepL 2 o s x al).toArray 46) = w1 := ⟨_, rfl⟩
  have hB : Below w.heap.size w w1 := by rw [← hw1]; exact (Below.refl _ _).alloc (Nat.le_refl _) _
  have hst : StG g 2 o s x al w1 := by unfold StG; rw [← hw1, ← hg]; exact heap_alloc_new w _
  have hd1 : Duo w1.drew B p L q f N := (h.below hB).below (below_drewN (Below.refl _ _) 1)
  obtain ⟨v, X, cP, cR⟩ := pin_pair hd1 hN s x hx
  obtain ⟨R1, R2, hP0, hM0, hS10, hS20, hF0⟩ := two_of (argf := fun a => #[a, .int .i64 s, .agg (u8s x).toArray]) h (below_drewN hB 1) hd1 (show StG g 2 o s x al w1.drew from hst) cP cR
  have c0 : w1.cell? ⟨g, 0, none⟩ = some (.int .i64 2) := hst.c0
  have hd : Hid (StG g 2 o s x al w1.drew) := Lib.hid hst
  have hi32 : Hid ((Try.prog.info? 29).map (·.size) = some 32) := Lib.hid (by kernel_rfl)
  have hx32 : Hid ((u8s x).length = 32) := Lib.hid (by simp [u8s, hx.1])
  have hP := Lib.hid hP0
  have hM := Lib.hid hM0
  have hS1 := Lib.hid hS10
  have hS2 := Lib.hid hS20
  have hF := Lib.hid hF0
  obtain ⟨Q, hQ⟩ : ∃ Q, DoneP w B p L q f N = Q := ⟨_, rfl⟩
  rw [hQ] at hF ⊢
  generalize (stepL 2 o s x al).toArray = ar at hw1 ⊢
  clear h hB hst hd1 cP cR hQ hx hP0 hM0 hS10 hS20 hF0
  go_enter Try.func14, Try.ntmps14
  go_wp2_with fail
  refine wp_region_held (S := StG g 2 o s x al) (by kernel_rfl) ?_
  change wpAnyH _ _ _ _ _ _ _ _ (World.drew _)
  refine tk (i := 0) (d := 33) (v := (.pointer (some ⟨p, 0, none⟩))) rfl rfl (Or.inl ⟨by rfl, by intro W hW; clear hW; go_simp⟩) hd.out ?_
  simp only [List.setIfInBounds_toArray, List.set_cons_zero, List.set_cons_succ]
  refine tk (i := 1) (d := 34) (v := (.pointer (some ⟨g, 2, none⟩))) rfl rfl (Or.inl ⟨by rfl, by intro W hW; clear hW; go_simp⟩) hd.out ?_
  simp only [List.setIfInBounds_toArray, List.set_cons_zero, List.set_cons_succ]
  refine tk (i := 2) (d := 35) (v := (.int .i64 s)) rfl rfl (Or.inl ⟨by rfl, by intro W hW; have cc := hW.c2; clear hW; go_simp⟩) hd.out ?_
  simp only [List.setIfInBounds_toArray, List.set_cons_zero, List.set_cons_succ]
  refine tk (i := 3) (d := 36) (v := (.pointer (some ⟨g, 3, none⟩))) rfl rfl (Or.inl ⟨by rfl, by intro W hW; clear hW; go_simp⟩) hd.out ?_
  simp only [List.setIfInBounds_toArray, List.set_cons_zero, List.set_cons_succ]
  refine tk (i := 4) (d := 37) (v := (.agg (u8s x).toArray)) rfl rfl (yieldsIf_load_mid (by rfl) 29 _ rfl g 3 rfl (u8s x) _ (fun W hW => (stG_key hW)) Try.underlying29 rfl (by rw [hx32.out]; exact hi32.out)) hd.out ?_
  simp only [List.setIfInBounds_toArray, List.set_cons_zero, List.set_cons_succ]
  refine tk (i := 6) (d := 39) (v := (.pointer (some ⟨q, 0, none⟩))) rfl rfl (Or.inl ⟨by rfl, by intro W hW; clear hW; go_simp⟩) hd.out ?_
  simp only [List.setIfInBounds_toArray, List.set_cons_zero, List.set_cons_succ]
  refine tk (i := 7) (d := 40) (v := (.pointer (some ⟨g, 2, none⟩))) rfl rfl (Or.inl ⟨by rfl, by intro W hW; clear hW; go_simp⟩) hd.out ?_
  simp only [List.setIfInBounds_toArray, List.set_cons_zero, List.set_cons_succ]
  refine tk (i := 8) (d := 41) (v := (.int .i64 s)) rfl rfl (Or.inl ⟨by rfl, by intro W hW; have cc := hW.c2; clear hW; go_simp⟩) hd.out ?_
  simp only [List.setIfInBounds_toArray, List.set_cons_zero, List.set_cons_succ]
  refine tk (i := 9) (d := 42) (v := (.pointer (some ⟨g, 3, none⟩))) rfl rfl (Or.inl ⟨by rfl, by intro W hW; clear hW; go_simp⟩) hd.out ?_
  simp only [List.setIfInBounds_toArray, List.set_cons_zero, List.set_cons_succ]
  refine tk (i := 10) (d := 43) (v := (.agg (u8s x).toArray)) rfl rfl (yieldsIf_load_mid (by rfl) 29 _ rfl g 3 rfl (u8s x) _ (fun W hW => (stG_key hW)) Try.underlying29 rfl (by rw [hx32.out]; exact hi32.out)) hd.out ?_
  simp only [List.setIfInBounds_toArray, List.set_cons_zero, List.set_cons_succ]
  refine wpAnyH_ready (rs := [5]) (by kernel_rfl) (by simp) ?_
  refine AllReadyH.cons rfl (fun K hK => ?_) AllReadyH.nil
  go_simp
  go_wp2_with (go_at_call 7; refine hP.out.mono ?_; rintro e v1 ⟨rfl, r1⟩; have r1' := Lib.hid r1; clear r1 hP)
  have hd1 := Lib.hid (hS1.out v1 r1'.out)
  refine hK.out _ _ hd1.out (fun _ => ?_)
  clear hK K
  refine wpAnyH_ready (rs := [11]) (by kernel_rfl) (by simp) ?_
  refine AllReadyH.cons rfl (fun K hK => ?_) AllReadyH.nil
  go_simp
  go_wp2_with (go_at_call 26; refine (hM.out v1 r1'.out).mono ?_; rintro e v2 ⟨rfl, r2⟩; have r2' := Lib.hid r2; clear r2 hM)
  have hd2 := Lib.hid (hS2.out v2 r2'.out)
  refine hK.out _ _ hd2.out (fun _ => ?_)
  clear hK K
  refine tk (i := 12) (d := 45) (v := (.bool true)) rfl rfl (Or.inl ⟨by rfl, by intro W hW; clear hW; go_simp⟩) hd2.out ?_
  simp only [List.setIfInBounds_toArray, List.set_cons_zero, List.set_cons_succ]
  refine tk (i := 13) (d := 6) (v := (.bool true)) rfl rfl (Or.inl ⟨by rfl, by intro W hW; clear hW; go_simp⟩) hd2.out ?_
  simp only [List.setIfInBounds_toArray, List.set_cons_zero, List.set_cons_succ]
  refine wpAnyH_done (by kernel_rfl) ?_ _
  have hf := Lib.hid (hF.out v2 r2'.out)
  go_wp2_with fail
  exact hf.out
set_option maxRecDepth 100000 in
set_option maxHeartbeats 1000000 in
theorem done_enter (w : World) (B p q N : Nat) (L : List (Option Ses)) (f : Nat → RSes) (h : Duo w B p L q f N) (hN : N < 4398046511104) (o : Bool) (s : Int) (x : List Nat) (hx : IsK x) (al : Bool) :
    Calls Try.prog 14 #[.pointer (some ⟨p, 0, none⟩), .pointer (some ⟨q, 0, none⟩), .agg (stepL 3 o s x al).toArray] w (DoneP w B p L q f N) := by
  obtain ⟨g, hg⟩ : ∃ g, w.heap.size = g := ⟨_, rfl⟩
  obtain ⟨w1, hw1⟩ : ∃ w1, w.alloc (.cells (stepL 3 o s x al).toArray 46) = w1 := ⟨_, rfl⟩
  have hB : Below w.heap.size w w1 := by rw [← hw1]; exact (Below.refl _ _).alloc (Nat.le_refl _) _
  have hst : StG g 3 o s x al w1 := by unfold StG; rw [← hw1, ← hg]; exact heap_alloc_new w _
  have hd1 : Duo w1.drew B p L q f N := (h.below hB).below (below_drewN (Below.refl _ _) 1)
  obtain ⟨v, X, cP, cR⟩ := enter_pair hd1 hN s
  obtain ⟨R1, R2, hP0, hM0, hS10, hS20, hF0⟩ := two_of (argf := fun a => #[a, .int .i64 s]) h (below_drewN hB 1) hd1 (show StG g 3 o s x al w1.drew from hst) cP cR
  have c0 : w1.cell? ⟨g, 0, none⟩ = some (.int .i64 3) := hst.c0
  have hd : Hid (StG g 3 o s x al w1.drew) := Lib.hid hst
  have hi32 : Hid ((Try.prog.info? 29).map (·.size) = some 32) := Lib.hid (by kernel_rfl)
  have hx32 : Hid ((u8s x).length = 32) := Lib.hid (by simp [u8s, hx.1])
  have hP := Lib.hid hP0
  have hM := Lib.hid hM0
  have hS1 := Lib.hid hS10
  have hS2 := Lib.hid hS20
  have hF := Lib.hid hF0
  obtain ⟨Q, hQ⟩ : ∃ Q, DoneP w B p L q f N = Q := ⟨_, rfl⟩
  rw [hQ] at hF ⊢
  generalize (stepL 3 o s x al).toArray = ar at hw1 ⊢
  clear h hB hst hd1 cP cR hQ hx hP0 hM0 hS10 hS20 hF0
  go_enter Try.func14, Try.ntmps14
  go_wp2_with fail
  refine wp_region_held (S := StG g 3 o s x al) (by kernel_rfl) ?_
  change wpAnyH _ _ _ _ _ _ _ _ (World.drew _)
  refine tk (i := 0) (d := 48) (v := (.pointer (some ⟨p, 0, none⟩))) rfl rfl (Or.inl ⟨by rfl, by intro W hW; clear hW; go_simp⟩) hd.out ?_
  simp only [List.setIfInBounds_toArray, List.set_cons_zero, List.set_cons_succ]
  refine tk (i := 1) (d := 49) (v := (.pointer (some ⟨g, 2, none⟩))) rfl rfl (Or.inl ⟨by rfl, by intro W hW; clear hW; go_simp⟩) hd.out ?_
  simp only [List.setIfInBounds_toArray, List.set_cons_zero, List.set_cons_succ]
  refine tk (i := 2) (d := 50) (v := (.int .i64 s)) rfl rfl (Or.inl ⟨by rfl, by intro W hW; have cc := hW.c2; clear hW; go_simp⟩) hd.out ?_
  simp only [List.setIfInBounds_toArray, List.set_cons_zero, List.set_cons_succ]
  refine tk (i := 4) (d := 52) (v := (.pointer (some ⟨q, 0, none⟩))) rfl rfl (Or.inl ⟨by rfl, by intro W hW; clear hW; go_simp⟩) hd.out ?_
  simp only [List.setIfInBounds_toArray, List.set_cons_zero, List.set_cons_succ]
  refine tk (i := 5) (d := 53) (v := (.pointer (some ⟨g, 2, none⟩))) rfl rfl (Or.inl ⟨by rfl, by intro W hW; clear hW; go_simp⟩) hd.out ?_
  simp only [List.setIfInBounds_toArray, List.set_cons_zero, List.set_cons_succ]
  refine tk (i := 6) (d := 54) (v := (.int .i64 s)) rfl rfl (Or.inl ⟨by rfl, by intro W hW; have cc := hW.c2; clear hW; go_simp⟩) hd.out ?_
  simp only [List.setIfInBounds_toArray, List.set_cons_zero, List.set_cons_succ]
  refine wpAnyH_ready (rs := [3]) (by kernel_rfl) (by simp) ?_
  refine AllReadyH.cons rfl (fun K hK => ?_) AllReadyH.nil
  go_simp
  go_wp2_with (go_at_call 27; refine hP.out.mono ?_; rintro e v1 ⟨rfl, r1⟩; have r1' := Lib.hid r1; clear r1 hP)
  have hd1 := Lib.hid (hS1.out v1 r1'.out)
  refine hK.out _ _ hd1.out (fun _ => ?_)
  clear hK K
  refine wpAnyH_ready (rs := [7]) (by kernel_rfl) (by simp) ?_
  refine AllReadyH.cons rfl (fun K hK => ?_) AllReadyH.nil
  go_simp
  go_wp2_with (go_at_call 28; refine (hM.out v1 r1'.out).mono ?_; rintro e v2 ⟨rfl, r2⟩; have r2' := Lib.hid r2; clear r2 hM)
  have hd2 := Lib.hid (hS2.out v2 r2'.out)
  refine hK.out _ _ hd2.out (fun _ => ?_)
  clear hK K
  refine tk (i := 8) (d := 56) (v := (.bool true)) rfl rfl (Or.inl ⟨by rfl, by intro W hW; clear hW; go_simp⟩) hd2.out ?_
  simp only [List.setIfInBounds_toArray, List.set_cons_zero, List.set_cons_succ]
  refine tk (i := 9) (d := 6) (v := (.bool true)) rfl rfl (Or.inl ⟨by rfl, by intro W hW; clear hW; go_simp⟩) hd2.out ?_
  simp only [List.setIfInBounds_toArray, List.set_cons_zero, List.set_cons_succ]
  refine wpAnyH_done (by kernel_rfl) ?_ _
  have hf := Lib.hid (hF.out v2 r2'.out)
  go_wp2_with fail
  exact hf.out
set_option maxRecDepth 100000 in
set_option maxHeartbeats 1000000 in
theorem done_leave (w : World) (B p q N : Nat) (L : List (Option Ses)) (f : Nat → RSes) (h : Duo w B p L q f N) (hN : N < 4398046511104) (o : Bool) (s : Int) (x : List Nat) (hx : IsK x) (al : Bool) :
    Calls Try.prog 14 #[.pointer (some ⟨p, 0, none⟩), .pointer (some ⟨q, 0, none⟩), .agg (stepL 4 o s x al).toArray] w (DoneP w B p L q f N) := by
  obtain ⟨g, hg⟩ : ∃ g, w.heap.size = g := ⟨_, rfl⟩
  obtain ⟨w1, hw1⟩ : ∃ w1, w.alloc (.cells (stepL 4 o s x al).toArray 46) = w1 := ⟨_, rfl⟩
  have hB : Below w.heap.size w w1 := by rw [← hw1]; exact (Below.refl _ _).alloc (Nat.le_refl _) _
  have hst : StG g 4 o s x al w1 := by unfold StG; rw [← hw1, ← hg]; exact heap_alloc_new w _
  have hd1 : Duo w1.drew B p L q f N := (h.below hB).below (below_drewN (Below.refl _ _) 1)
  obtain ⟨v, X, cP, cR⟩ := leave_pair hd1 hN s
  obtain ⟨R1, R2, hP0, hM0, hS10, hS20, hF0⟩ := two_of (argf := fun a => #[a, .int .i64 s]) h (below_drewN hB 1) hd1 (show StG g 4 o s x al w1.drew from hst) cP cR
  have c0 : w1.cell? ⟨g, 0, none⟩ = some (.int .i64 4) := hst.c0
  have hd : Hid (StG g 4 o s x al w1.drew) := Lib.hid hst
  have hi32 : Hid ((Try.prog.info? 29).map (·.size) = some 32) := Lib.hid (by kernel_rfl)
  have hx32 : Hid ((u8s x).length = 32) := Lib.hid (by simp [u8s, hx.1])
  have hP := Lib.hid hP0
  have hM := Lib.hid hM0
  have hS1 := Lib.hid hS10
  have hS2 := Lib.hid hS20
  have hF := Lib.hid hF0
  obtain ⟨Q, hQ⟩ : ∃ Q, DoneP w B p L q f N = Q := ⟨_, rfl⟩
  rw [hQ] at hF ⊢
  generalize (stepL 4 o s x al).toArray = ar at hw1 ⊢
  clear h hB hst hd1 cP cR hQ hx hP0 hM0 hS10 hS20 hF0
  go_enter Try.func14, Try.ntmps14
  go_wp2_with fail
  refine wp_region_held (S := StG g 4 o s x al) (by kernel_rfl) ?_
  change wpAnyH _ _ _ _ _ _ _ _ (World.drew _)
  refine tk (i := 0) (d := 59) (v := (.pointer (some ⟨p, 0, none⟩))) rfl rfl (Or.inl ⟨by rfl, by intro W hW; clear hW; go_simp⟩) hd.out ?_
  simp only [List.setIfInBounds_toArray, List.set_cons_zero, List.set_cons_succ]
  refine tk (i := 1) (d := 60) (v := (.pointer (some ⟨g, 2, none⟩))) rfl rfl (Or.inl ⟨by rfl, by intro W hW; clear hW; go_simp⟩) hd.out ?_
  simp only [List.setIfInBounds_toArray, List.set_cons_zero, List.set_cons_succ]
  refine tk (i := 2) (d := 61) (v := (.int .i64 s)) rfl rfl (Or.inl ⟨by rfl, by intro W hW; have cc := hW.c2; clear hW; go_simp⟩) hd.out ?_
  simp only [List.setIfInBounds_toArray, List.set_cons_zero, List.set_cons_succ]
  refine tk (i := 4) (d := 63) (v := (.pointer (some ⟨q, 0, none⟩))) rfl rfl (Or.inl ⟨by rfl, by intro W hW; clear hW; go_simp⟩) hd.out ?_
  simp only [List.setIfInBounds_toArray, List.set_cons_zero, List.set_cons_succ]
  refine tk (i := 5) (d := 64) (v := (.pointer (some ⟨g, 2, none⟩))) rfl rfl (Or.inl ⟨by rfl, by intro W hW; clear hW; go_simp⟩) hd.out ?_
  simp only [List.setIfInBounds_toArray, List.set_cons_zero, List.set_cons_succ]
  refine tk (i := 6) (d := 65) (v := (.int .i64 s)) rfl rfl (Or.inl ⟨by rfl, by intro W hW; have cc := hW.c2; clear hW; go_simp⟩) hd.out ?_
  simp only [List.setIfInBounds_toArray, List.set_cons_zero, List.set_cons_succ]
  refine wpAnyH_ready (rs := [3]) (by kernel_rfl) (by simp) ?_
  refine AllReadyH.cons rfl (fun K hK => ?_) AllReadyH.nil
  go_simp
  go_wp2_with (go_at_call 29; refine hP.out.mono ?_; rintro e v1 ⟨rfl, r1⟩; have r1' := Lib.hid r1; clear r1 hP)
  have hd1 := Lib.hid (hS1.out v1 r1'.out)
  refine hK.out _ _ hd1.out (fun _ => ?_)
  clear hK K
  refine wpAnyH_ready (rs := [7]) (by kernel_rfl) (by simp) ?_
  refine AllReadyH.cons rfl (fun K hK => ?_) AllReadyH.nil
  go_simp
  go_wp2_with (go_at_call 30; refine (hM.out v1 r1'.out).mono ?_; rintro e v2 ⟨rfl, r2⟩; have r2' := Lib.hid r2; clear r2 hM)
  have hd2 := Lib.hid (hS2.out v2 r2'.out)
  refine hK.out _ _ hd2.out (fun _ => ?_)
  clear hK K
  refine tk (i := 8) (d := 67) (v := (.bool true)) rfl rfl (Or.inl ⟨by rfl, by intro W hW; clear hW; go_simp⟩) hd2.out ?_
  simp only [List.setIfInBounds_toArray, List.set_cons_zero, List.set_cons_succ]
  refine tk (i := 9) (d := 6) (v := (.bool true)) rfl rfl (Or.inl ⟨by rfl, by intro W hW; clear hW; go_simp⟩) hd2.out ?_
  simp only [List.setIfInBounds_toArray, List.set_cons_zero, List.set_cons_succ]
  refine wpAnyH_done (by kernel_rfl) ?_ _
  have hf := Lib.hid (hF.out v2 r2'.out)
  go_wp2_with fail
  exact hf.out
set_option maxRecDepth 100000 in
set_option maxHeartbeats 1000000 in
theorem done_told (w : World) (B p q N : Nat) (L : List (Option Ses)) (f : Nat → RSes) (h : Duo w B p L q f N) (hN : N < 4398046511104) (d : Int) (hd : ¬ (0 ≤ d ∧ d < 5)) (o : Bool) (s : Int) (x : List Nat) (hx : IsK x) (al : Bool) :
    Calls Try.prog 14 #[.pointer (some ⟨p, 0, none⟩), .pointer (some ⟨q, 0, none⟩), .agg (stepL d o s x al).toArray] w (DoneP w B p L q f N) := by
  obtain ⟨g, hg⟩ : ∃ g, w.heap.size = g := ⟨_, rfl⟩
  obtain ⟨w1, hw1⟩ : ∃ w1, w.alloc (.cells (stepL d o s x al).toArray 46) = w1 := ⟨_, rfl⟩
  have hB : Below w.heap.size w w1 := by rw [← hw1]; exact (Below.refl _ _).alloc (Nat.le_refl _) _
  have hst : StG g d o s x al w1 := by unfold StG; rw [← hw1, ← hg]; exact heap_alloc_new w _
  have h1 := h.below hB
  have hT := Lib.hid (told_any w1 B p q N L f h1 (by omega) d o s x hx al)
  have c0 : w1.cell? ⟨g, 0, none⟩ = some (.int .i64 d) := hst.c0
  have hF : Hid (∀ W, Below w1.heap.size w1 W → DoneP w B p L q f N (.returned (.bool true)) W) := Lib.hid fun W hW =>
    ⟨rfl, L, f, (h1.below hW).mono (by omega), Upd.of_below (hB.trans (hW.mono hB.size)), fun k hk => .inl hk⟩
  have hsz : Hid ((Try.prog.info? 46).map (·.size) = some (stepL d o s x al).toArray.size) := Lib.hid (by
    rw [show (stepL d o s x al).toArray.size = 36 by simp [stepL, u8s, hx.1]]
    kernel_rfl)
  have hst' := Lib.hid hst
  unfold StG at hst'
  obtain ⟨Q, hQ⟩ : ∃ Q, DoneP w B p L q f N = Q := ⟨_, rfl⟩
  rw [hQ] at hF ⊢
  have e0 : (d == 0) = false := by simp; omega
  have e1 : (d == 1) = false := by simp; omega
  have e2 : (d == 2) = false := by simp; omega
  have e3 : (d == 3) = false := by simp; omega
  have e4 : (d == 4) = false := by simp; omega
  generalize (stepL d o s x al).toArray = ar at hw1 hT hst' hsz ⊢
  clear h hB hst h1 hQ hx hd
  go_enter Try.func14, Try.ntmps14
  go_wp2_with (first
    | (refine wpList_load_row rfl 46 _ rfl g rfl 46 ar (0, 0) _ hst'.out Try.underlying46 rfl hsz.out ?_)
    | (go_at_call 31; (first | rw [hw1] | skip); refine hT.out.mono ?_; rintro e w5 ⟨rfl, b5⟩; have hf := Lib.hid (hF.out w5 b5); clear b5 hT))
  exact hf.out
theorem done_any (w : World) (B p q N : Nat) (L : List (Option Ses)) (f : Nat → RSes) (h : Duo w B p L q f N) (hN : N < 4398046511104) (d : Int) (o : Bool) (s : Int) (x : List Nat) (hx : IsK x) (al : Bool) :
    Calls Try.prog 14 #[.pointer (some ⟨p, 0, none⟩), .pointer (some ⟨q, 0, none⟩), .agg (stepL d o s x al).toArray] w (DoneP w B p L q f N) := by
  by_cases hd : 0 ≤ d ∧ d < 5
  · rcases (show d = 0 ∨ d = 1 ∨ d = 2 ∨ d = 3 ∨ d = 4 by omega) with rfl | rfl | rfl | rfl | rfl
    · exact done_open w B p q N L f h hN o s x hx al
    · exact done_close w B p q N L f h hN o s x hx al
    · exact done_pin w B p q N L f h hN o s x hx al
    · exact done_enter w B p q N L f h hN o s x hx al
    · exact done_leave w B p q N L f h hN o s x hx al
  · exact done_told w B p q N L f h hN d hd o s x hx al
end Go.Proofs.Ytgjokkjmljdmbaa
